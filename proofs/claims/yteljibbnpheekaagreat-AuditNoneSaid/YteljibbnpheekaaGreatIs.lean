/-
  Operations in regions, in the kit's own logic of the machine's steps.
-/
import Derived.Test.YteljibbnpheekaaGreatIn
namespace Go.Ideal
open Go
def FF (ro : Option Nat) : Fence := { fn := fun _ => True, depth := none, alive := false, round := ro }
def Rets (P : Program) (B : Nat) (w0 : Base) (β : Beta) (Q : Value × World → Prop) : Ending → World → Prop
  | .returned v', w' => ∃ β2 v σ', β.le β2 ∧ R P B w0 β2 σ' w' ∧ VR β2 v v' ∧ Q (v, σ')
  | _, _ => False
structure KS (P : Program) (B : Nat) (w0 : Base) (K : Kont) : Prop where
  enter : ∀ {β : Beta} {σ w : World} {f : FuncId} {args args' : Array Value} {Q : Value × World → Prop}, R P B w0 β σ w → AR β args args' → (K.enter f args σ).all Q →
    ∀ n, CallsIn Fence.wide n P f args' w (Rets P B w0 β Q)
  round : ∀ {β : Beta} {σ w : World} {l : Nat} {bi : BI} {f f' : FuncId} {tmps tmps' : Array Value} {assign body : Code} {Q : Value × World → Prop}, R P B w0 β σ w → β l = some bi → AR β tmps tmps' →
    (K.round l f tmps assign body σ).all Q → ∀ n, RoundIn Fence.wide n P bi.r f' tmps' assign body w (Rets P B w0 β Q)
def DR (β : Beta) : List Deferred → List Deferred → Prop
  | [], [] => True
  | d :: ds, e :: es => (∃ l bi, d.target = .collected l ∧ e.target = .collected bi.r ∧ β l = some bi) ∧ DR β ds es
  | _, _ => False
theorem DR.mono {β β' : Beta} (h : β.le β') : ∀ {l m : List Deferred}, DR β l m → DR β' l m
  | [], [], _ => trivial
  | _ :: _, _ :: _, ⟨⟨l, bi, h1, h2, h3⟩, hr⟩ => ⟨⟨l, bi, h1, h2, h _ _ h3⟩, DR.mono h hr⟩
  | [], _ :: _, h => h.elim
  | _ :: _, [], h => h.elim
structure ActR (β : Beta) (a a' : Act) : Prop where
  tmps : AR β a.tmps a'.tmps
  defers : DR β a.defers a'.defers
theorem ActR.mono {β β' : Beta} (h : β.le β') {a a' : Act} (ha : ActR β a a') : ActR β' a a' := ⟨ha.tmps.mono h, ha.defers.mono h⟩
theorem ActR.put {β : Beta} {a a' : Act} (h : ActR β a a') (d : Option Tmp) {v v' : Value} (hv : VR β v v') : ActR β (a.put d v) (a'.put d v') := by
  cases d with
  | none => exact h
  | some d => exact ⟨h.tmps.set d hv, h.defers⟩
def Slots (β : Beta) (l : List Tmp) (a a' : Act) : Prop :=
  a.tmps.size = a'.tmps.size ∧ ∀ t ∈ l, ∀ v v', a.tmps[t]? = some v → a'.tmps[t]? = some v' → VR β v v'
theorem Slots.mono {β β' : Beta} (h : β.le β') {l : List Tmp} {a a' : Act} (ha : Slots β l a a') : Slots β' l a a' := ⟨ha.1, fun t ht v v' e e' => (ha.2 t ht v v' e e').mono h⟩
theorem ActR.slots {β : Beta} {a a' : Act} (h : ActR β a a') (l : List Tmp) : Slots β l a a' := ⟨h.tmps.1, fun t _ v v' e e' => h.tmps.2 t v v' e e'⟩
theorem Slots.getD {β : Beta} {l : List Tmp} {a a' : Act} (h : Slots β l a a') {t : Tmp} (ht : t ∈ l) : VR β (a.tmps.getD t undef) (a'.tmps.getD t undef) := by
  rw [Array.getD_eq_getD_getElem?, Array.getD_eq_getD_getElem?]
  cases h1 : a.tmps[t]? with
  | none =>
    have : a'.tmps[t]? = none := by rw [Array.getElem?_eq_none_iff] at *; rw [← h.1]; exact h1
    rw [this]; exact undefVR β
  | some v =>
    have hi : t < a'.tmps.size := h.1 ▸ (Array.getElem?_eq_some_iff.1 h1).1
    have h2 : a'.tmps[t]? = some a'.tmps[t] := by simp [hi]
    rw [h2]
    exact h.2 t ht _ _ h1 h2
section
variable {P : Program} {B : Nat} {w0 : Base} {β : Beta} {ops : Array Oper}
theorem eval_vr {a a' : Act} {x : Operand} (hc : constFit x = true) (h : ∀ t, x = .tmp t → VR β (a.tmps.getD t undef) (a'.tmps.getD t undef)) : VR β (a.eval x) (a'.eval x) := by
  cases x with
  | tmp t => exact h t rfl
  | const v => exact selfVR β 4 v hc
  | global g => cases hc
  | func f => exact .func0 (.func f) rfl (fun i v v' e => by simp at e)
theorem Slots.rho {o : Oper} {a a' : Act} (h : Slots β (o.looksAt ops) a a') : Rho β o a.eval a'.eval := fun x hx hc =>
  eval_vr hc fun t e => h.getD (by subst e; exact List.mem_append_left _ (List.mem_filterMap.2 ⟨.tmp t, hx, rfl⟩))
theorem yielded_eq {a a' : Act} {j : Nat} {l : List Tmp} (h : Slots β l a a') (hl : ∀ d, (ops[j]?).bind (·.dst) = some d → d ∈ l) : yielded ops a'.tmps j = yielded ops a.tmps j := by
  unfold yielded
  cases hd : (ops[j]?).bind (·.dst) with
  | none => rfl
  | some d =>
    simp only [Option.bind_some]
    cases h1 : a.tmps[d]? with
    | none =>
      have : a'.tmps[d]? = none := by rw [Array.getElem?_eq_none_iff] at *; rw [← h.1]; exact h1
      rw [this]
    | some v =>
      have hi : d < a'.tmps.size := h.1 ▸ (Array.getElem?_eq_some_iff.1 h1).1
      have h2 : a'.tmps[d]? = some a'.tmps[d] := by simp [hi]
      rw [h2]
      have hv := h.2 d (hl d hd) _ _ h1 h2
      generalize a'.tmps[d] = v' at hv ⊢
      cases hv with
      | tok e hv => subst hv; rfl
      | _ => rfl
theorem Slots.wanted {o : Oper} {a a' : Act} (h : Slots β (o.looksAt ops) a a') : Region.wanted o (yielded ops a'.tmps) = Region.wanted o (yielded ops a.tmps) := by
  unfold Region.wanted
  cases hg : o.guard with
  | none => rfl
  | some gw =>
    obtain ⟨g, want⟩ := gw
    simp only
    rw [yielded_eq h (fun d hd => by simp [Oper.looksAt, hg, hd])]
theorem istep_noDefer {ρ : Operand → Value} {o : Oper} {σ : World} {Q : Next × World → Prop} (h : (istep P ρ o σ).all Q) : ∀ c, o.op ≠ .defer c := fun c e => by
  have hc := istep_consts h
  simp only [istep, hc, if_true] at h
  obtain ⟨dst, op, ty, pos, after, guard⟩ := o
  simp only at e
  subst e
  exact h
theorem acts_in {K : Kont} (hK : KS P B w0 K) {ro : Option Nat} {n : Nat} {o : Oper} {aI aR : Act} {σ w : World} (hR : R P B w0 β σ w) (hρ : Rho β o aI.eval aR.eval) (ha : acts o.op = true)
    {Q : Value × World → Prop} (hQ : (iop P K aI o σ).all Q) {next : Act → World → Prop} {Qx : Exit → Act → World → Prop}
    (hn : ∀ β2 v v' σ' w', β.le β2 → R P B w0 β2 σ' w' → VR β2 v v' → Q (v, σ') → next (aR.put o.dst v') w') : o.wpIn (FF ro) n P aR w next Qx := by
  have hQ' := T.all_bind.1 hQ
  refine ⟨fun _ _ => trivial, ?_⟩
  rw [Oper.semAt_eq _ _ _ (istep_noDefer hQ')]
  obtain ⟨β2, nx, σ', nx', w', hle, hrun, hR', hN, hq⟩ := act_istep hρ ha hR hQ'
  rw [hrun]
  cases hN with
  | value hv => exact hn _ _ _ _ _ hle hR' hv hq
  | skip => exact hn _ _ _ _ _ hle hR' (undefVR _) hq
  | enter f hargs =>
    refine ⟨(fun h => by cases h), CallsIn.mono (hK.enter hR' hargs hq (n - 1)) fun e w'' he => ?_⟩
    cases e with
    | returned v' =>
      obtain ⟨β3, v, σ'', h1, h2, h3, h4⟩ := he
      exact hn _ _ _ _ _ (hle.trans h1) h2 h3 h4
    | panicked c => exact he.elim
    | outgrown => exact he.elim
  | @round l bi hl f f' tmps tmps' ht assign body =>
    refine ⟨(fun h => by cases h), RoundIn.mono (hK.round hR' hl ht hq (n - 1)) fun e w'' he => ?_⟩
    cases e with
    | returned v' =>
      obtain ⟨β3, v, σ'', h1, h2, h3, h4⟩ := he
      exact hn _ _ _ _ _ (hle.trans h1) h2 h3 h4
    | panicked c => exact he.elim
    | outgrown => exact he.elim
theorem still_in {ro : Option Nat} {n : Nat} {o : Oper} {aR : Act} {w : World} {v' : Value} (hd : ∀ c, o.op ≠ .defer c) (hrun : (execOp aR.eval o).run P w = .ok (.value v') w)
    {next : Act → World → Prop} {Qx : Exit → Act → World → Prop} (hn : next (aR.put o.dst v') w) : o.wpIn (FF ro) n P aR w next Qx := by
  refine ⟨fun _ _ => trivial, ?_⟩
  rw [Oper.semAt_eq _ _ _ hd, hrun]
  exact hn
theorem iop_in {K : Kont} (hK : KS P B w0 K) {ro : Option Nat} {n : Nat} {o : Oper} {aI aR : Act} {σ w : World} (hR : R P B w0 β σ w) (hρ : Rho β o aI.eval aR.eval)
    {Q : Value × World → Prop} (hQ : (iop P K aI o σ).all Q) {next : Act → World → Prop} {Qx : Exit → Act → World → Prop}
    (hn : ∀ β2 v v' σ' w', β.le β2 → R P B w0 β2 σ' w' → VR β2 v v' → Q (v, σ') → next (aR.put o.dst v') w') : o.wpIn (FF ro) n P aR w next Qx := by
  cases ha : acts o.op with
  | true => exact acts_in hK hR hρ ha hQ hn
  | false =>
    have hQ' := T.all_bind.1 hQ
    obtain ⟨v, v', hq, hrun, hv⟩ := still_istep hρ ha hR hQ'
    exact still_in (istep_noDefer hQ') hrun (hn _ _ _ _ _ (.refl _) hR hv hq)
theorem iops_in {K : Kont} (hK : KS P B w0 K) {ro : Option Nat} {n : Nat} {Q : Act × World → Prop} {Qx : Exit → Act → World → Prop} : ∀ (l : List Nat) {β : Beta} {aI aR : Act} {σ w : World}, R P B w0 β σ w → ActR β aI aR → (iops P K ops l aI σ).all Q →
    (∀ β2 a a' σ' w', β.le β2 → R P B w0 β2 σ' w' → ActR β2 a a' → Q (a, σ') → Qx .normal a' w') → wpOpsIn (FF ro) n P ops Qx l aR w
  | [], β, aI, aR, σ, w, hR, hA, hQ, hq => hq _ _ _ _ _ (.refl _) hR hA hQ
  | i :: rest, β, aI, aR, σ, w, hR, hA, hQ, hq => by
    rw [wpOpsIn_cons]
    have hQ := T.all_bind.1 hQ
    unfold wpOpIn
    unfold iopAt at hQ
    cases ho : ops[i]? with
    | none => rw [ho] at hQ; exact hQ.elim
    | some o =>
      rw [ho] at hQ
      simp only at hQ ⊢
      have hs := hA.slots (o.looksAt ops)
      rw [hs.wanted]
      cases hw : Region.wanted o (yielded ops aI.tmps) with
      | true =>
        simp only [hw, if_true] at hQ ⊢
        refine iop_in hK hR hs.rho (T.all_bind.1 hQ) fun β2 v v' σ' w' hle hR' hv hq' => ?_
        exact iops_in hK rest hR' ((hA.mono hle).put _ hv) hq' fun β3 a a' σ2 w2 h3 => hq β3 a a' σ2 w2 (hle.trans h3)
      | false =>
        simp only [hw, Bool.false_eq_true, if_false] at hQ ⊢
        exact ⟨fun _ _ => trivial, iops_in hK rest hR (hA.put _ (undefVR β)) hQ hq⟩
end
end Go.Ideal
namespace Go.Ideal
open Go
def Flat {α : Type} (t : T α) : Prop := (∃ p, t = .ret p) ∨ t = .bad
theorem flat_ofRun {α : Type} (r : Result α) : Flat (ofRun r) := by
  cases r with
  | ok a w => exact .inl ⟨_, rfl⟩
  | halt x w => exact .inr rfl
theorem flat_bad {α : Type} : Flat (.bad : T α) := .inr rfl
theorem flat_ret {α : Type} (a : α) : Flat (.ret a) := .inl ⟨_, rfl⟩
theorem flat_ite {α : Type} {c : Prop} [Decidable c] {x y : T α} (hx : Flat x) (hy : Flat y) : Flat (if c then x else y) := by
  by_cases h : c
  · rw [if_pos h]; exact hx
  · rw [if_neg h]; exact hy
theorem flat_map {α γ : Type} {t : T α} (h : Flat t) (f : α → γ) : Flat (t.bind fun x => .ret (f x)) := by
  rcases h with ⟨p, rfl⟩ | rfl
  · exact .inl ⟨_, rfl⟩
  · exact .inr rfl
theorem flat_isliceOpen (P : Program) (elem : TypeId) (a : Addr) (len : Nat) (lo hi mx : Option Value) (w : World) : Flat (isliceOpen P elem a len lo hi mx w) := by
  unfold isliceOpen
  repeat' split
  all_goals first | exact flat_bad | exact flat_ret _
theorem flat_isliceSeen (P : Program) (elem : TypeId) (a : Addr) (len cap : Nat) (lo hi mx : Option Value) (w : World) : Flat (isliceSeen P elem a len cap lo hi mx w) := by
  unfold isliceSeen
  repeat' split
  all_goals first | exact flat_bad | exact flat_ret _
theorem flat_islice (P : Program) (t : TypeId) (x : Value) (lo hi mx : Option Value) (w : World) : Flat (islice P t x lo hi mx w) := by
  unfold islice
  repeat' split
  all_goals first | exact flat_bad | exact flat_ofRun _ | exact flat_isliceOpen .. | exact flat_isliceSeen ..
theorem flat_istep {P : Program} {ρ : Operand → Value} {o : Oper} {σ : World} (ha : acts o.op = false) : Flat (istep P ρ o σ) := by
  unfold istep
  dsimp only
  refine flat_ite ?_ flat_bad
  obtain ⟨dst, op, ty, pos, after, guard⟩ := o
  simp only at ha
  cases op with
  | slice t x lo hi mx => exact flat_map (flat_islice ..) _
  | next it b => cases ha
  | call c =>
    obtain ⟨callee, args, argTypes⟩ := c
    cases callee with
    | value f => cases ha
    | invoke x n => cases ha
    | builtin b =>
      cases b <;> first | (cases ha; done) | exact flat_bad | exact flat_ofRun _ | exact flat_ite (flat_ofRun _) flat_bad
  | makeFunc fn first captured => cases fn <;> first | exact flat_bad | exact flat_ofRun _
  | typeAssert x xt a ok =>
    dsimp only
    split
    · exact flat_ite (flat_ofRun _) flat_bad
    · exact flat_bad
  | makeMap t r => cases r <;> first | exact flat_bad | exact flat_ofRun _
  | _ => first | exact flat_bad | exact flat_ofRun _ | exact flat_ite (flat_ofRun _) flat_bad
theorem istep_congr {P : Program} {ρ ρ' : Operand → Value} {o : Oper} (h : ∀ x ∈ o.op.operands, ρ x = ρ' x) (σ : World) : istep P ρ o σ = istep P ρ' o σ := by
  cases hc : o.op.operands.all constFit with
  | false => simp only [istep, hc, Bool.false_eq_true, if_false]
  | true =>
    by_cases hs : ∀ cs b, o.op ≠ .select cs b
    · have he := execOp_congr (ρ := ρ) (ρ' := ρ') o hs h
      obtain ⟨dst, op, ty, pos, after, guard⟩ := o
      simp only [istep, hc, if_true]
      rw [he]
      cases op with
      | slice t x lo hi mx =>
        have hx := h x (by simp [Op.operands])
        have hl : lo.map ρ = lo.map ρ' := by cases lo <;> simp_all [Op.operands]
        have hh : hi.map ρ = hi.map ρ' := by cases hi <;> simp_all [Op.operands]
        have hm : mx.map ρ = mx.map ρ' := by cases mx <;> simp_all [Op.operands]
        simp only [hx, hl, hh, hm]
      | next it b => simp only [h it (by simp [Op.operands])]
      | call c =>
        obtain ⟨callee, args, argTypes⟩ := c
        have hargs : ∀ x ∈ args, ρ x = ρ' x := fun x hx => h x (by simp [Op.operands, Call.operands, hx])
        have hm : args.map ρ = args.map ρ' := Array.map_congr_left hargs
        cases callee with
        | value f => simp only [h f (by simp [Op.operands, Call.operands])]
        | invoke x n => simp only [h x (by simp [Op.operands, Call.operands])]
        | builtin b =>
          have hall : (args.toList.all fun x => keyFit (ρ x)) = args.toList.all fun x => keyFit (ρ' x) := by
            rw [Bool.eq_iff_iff, List.all_eq_true, List.all_eq_true]
            exact ⟨fun g x hx => by rw [← hargs x (by simpa using hx)]; exact g x hx, fun g x hx => by rw [hargs x (by simpa using hx)]; exact g x hx⟩
          have h1 : (args[1]?).map ρ = (args[1]?).map ρ' := by
            cases ha : args[1]? with
            | none => rfl
            | some x => simp only [Option.map_some, hargs x (Array.mem_of_getElem? ha)]
          cases b <;> dsimp only <;> first | rfl | (simp only [hm]; done) | (rw [hall]; done) | (rw [h1]; done)
      | binOp op t x y _ => simp only [h x (by simp [Op.operands]), h y (by simp [Op.operands])]
      | lookup t x k ok => simp only [h k (by simp [Op.operands])]
      | makeSlice t l c => simp only [h c (by simp [Op.operands])]
      | mapUpdate t m k x => simp only [h k (by simp [Op.operands])]
      | insert t m k x => simp only [h k (by simp [Op.operands])]
      | mapEntry t m k => simp only [h k (by simp [Op.operands])]
      | convert s d x => simp only [h x (by simp [Op.operands])]
      | unOp op t x => simp only [h x (by simp [Op.operands])]
      | makeFunc fn first captured => cases fn <;> rfl
      | typeAssert x xt a ok => simp only [h x (by simp [Op.operands])]
      | makeMap t r => cases r <;> rfl
      | _ => rfl
    · obtain ⟨dst, op, ty, pos, after, guard⟩ := o
      simp only [Classical.not_forall, ne_eq] at hs
      obtain ⟨cs, b, hs⟩ := hs
      have hs := Classical.not_not.1 hs
      subst hs
      simp only [istep, hc, if_true]
theorem str_eq {a b : ByteArray} (h : a.data.toList = b.data.toList) : Value.string a = Value.string b := by
  congr 1
  apply ByteArray.ext
  apply Array.ext'
  exact h
theorem rows_eq {n : Nat} (ih : ∀ (a b : Value), veq n a b = true → a = b) {a b : Array Value} (hs : a.size = b.size) (h : ∀ x ∈ a.toList.zip b.toList, veq n x.1 x.2 = true) : a = b := by
  apply Array.ext hs
  intro i h1 h2
  refine ih _ _ (h (a[i], b[i]) ?_)
  rw [List.mem_iff_getElem]
  exact ⟨i, by rw [List.length_zip, Array.length_toList, Array.length_toList]; omega, by simp⟩
theorem veq_eq : ∀ (n : Nat) (a b : Value), veq n a b = true → a = b := by
  intro n
  induction n with
  | zero => intro a b h; cases a <;> cases b <;> first | (simp [veq] at h; done) | rfl | (simp only [veq, beq_iff_eq] at h; exact str_eq h) | (simp [veq] at h; simp [h]; done)
  | succ n ih =>
    intro a b h
    cases a <;> cases b <;> first
      | (simp [veq] at h; done)
      | rfl
      | (simp only [veq, beq_iff_eq] at h; exact str_eq h)
      | (simp [veq] at h; simp [h]; done)
      | (simp only [veq, Bool.and_eq_true, beq_iff_eq] at h; rw [h.1, ih _ _ h.2]; done)
      | (simp only [veq, Bool.and_eq_true, beq_iff_eq, List.all_eq_true] at h; exact congrArg _ (rows_eq ih h.1 h.2))
theorem waits_inner (acc : Array Nat) : ∀ (l : List Edge) (s r : Nat), (l.foldl (fun s e => if Region.binds .any e then s ||| 2 ^ e.on ||| acc.getD e.on 0 else s) s).testBit r = true →
    s.testBit r = true ∨ ∃ e ∈ l, Region.binds .any e = true ∧ (r = e.on ∨ (acc.getD e.on 0).testBit r = true)
  | [], s, r, h => .inl h
  | e :: l, s, r, h => by
    simp only [List.foldl_cons] at h
    rcases waits_inner acc l _ r h with h | ⟨e', he', hb, hr⟩
    · by_cases hb : Region.binds .any e = true
      · simp only [hb, if_true, Nat.testBit_or, Bool.or_eq_true, Nat.testBit_two_pow, decide_eq_true_eq] at h
        rcases h with (h | h) | h
        · exact .inl h
        · exact .inr ⟨e, by simp, hb, .inl h.symm⟩
        · exact .inr ⟨e, by simp, hb, .inr h⟩
      · simp only [hb, Bool.false_eq_true, if_false] at h
        exact .inl h
    · exact .inr ⟨e', by simp [he'], hb, hr⟩
def WaitsGood (ops : Array Oper) (acc : Array Nat) : Prop :=
  ∀ i r, (acc.getD i 0).testBit r = true → ∃ o, ops[i]? = some o ∧ ∃ e ∈ o.after, Region.binds .any e = true ∧ (r = e.on ∨ (acc.getD e.on 0).testBit r = true)
theorem waits_go (ops : Array Oper) : ∀ (l d : List Oper) (acc : Array Nat), ops.toList = d ++ l → acc.size = d.length → WaitsGood ops acc →
    WaitsGood ops (l.foldl (fun acc o => acc.push (o.after.foldl (fun s e => if Region.binds .any e then s ||| 2 ^ e.on ||| acc.getD e.on 0 else s) 0)) acc)
  | [], d, acc, _, _, h => h
  | o :: l, d, acc, hops, hsz, h => by
    simp only [List.foldl_cons]
    refine waits_go ops l (d ++ [o]) _ (by simp [hops]) (by simp [hsz]) ?_
    have mono : ∀ (x : Nat) k r, (acc.getD k 0).testBit r = true → ((acc.push x).getD k 0).testBit r = true := by
      intro x k r hk
      rw [Array.getD_eq_getD_getElem?] at hk ⊢
      rw [Array.getElem?_push]
      by_cases hks : k = acc.size
      · subst hks
        rw [Array.getElem?_eq_none (Nat.le_refl _)] at hk
        simp at hk
      · rw [if_neg hks]; exact hk
    intro i r hi
    by_cases his : i = acc.size
    · have ho : ops[i]? = some o := by rw [← Array.getElem?_toList, hops, his, hsz]; simp
      rw [Array.getD_eq_getD_getElem?, Array.getElem?_push, if_pos his] at hi
      simp only [Option.getD_some, ← Array.foldl_toList] at hi
      rcases waits_inner acc _ _ _ hi with h0 | ⟨e, he, hb, hr⟩
      · simp at h0
      · exact ⟨o, ho, e, by simpa using he, hb, hr.imp id (mono _ _ _)⟩
    · have hi' : (acc.getD i 0).testBit r = true := by
        rw [Array.getD_eq_getD_getElem?, Array.getElem?_push, if_neg his] at hi
        rw [Array.getD_eq_getD_getElem?]; exact hi
      obtain ⟨o', ho', e, he, hb, hr⟩ := h i r hi'
      exact ⟨o', ho', e, he, hb, hr.imp id (mono _ _ _)⟩
theorem waits_good (ops : Array Oper) : WaitsGood ops (waitsFor ops) := by
  unfold waitsFor
  rw [← Array.foldl_toList]
  exact waits_go ops ops.toList [] #[] rfl rfl (fun i r h => by simp at h)
theorem waits_listed {ops : Array Oper} {L : Nat → Prop} (hback : ∀ i o, ops[i]? = some o → ∀ e ∈ o.after, Region.binds .any e = true → e.on < i)
    (hdown : ∀ i o, L i → ops[i]? = some o → ∀ e ∈ o.after, Region.binds .any e = true → L e.on) :
    ∀ (n i : Nat) (o : Oper), i ≤ n → ops[i]? = some o → (∀ e ∈ o.after, Region.binds .any e = true → L e.on) → ∀ r, ((waitsFor ops).getD i 0).testBit r = true → L r := by
  intro n
  induction n with
  | zero =>
    intro i o hi ho hw r hr
    obtain ⟨o', ho', e, he, hb, hr⟩ := waits_good ops i r hr
    have := hback i o' ho' e he hb
    omega
  | succ n ih =>
    intro i o hi ho hw r hr
    obtain ⟨o', ho', e, he, hb, hr⟩ := waits_good ops i r hr
    rw [ho] at ho'
    simp only [Option.some.injEq] at ho'
    subst ho'
    have hlt := hback i o ho e he hb
    rcases hr with rfl | hr
    · exact hw e he hb
    · obtain ⟨o2, ho2, _⟩ := waits_good ops e.on r hr
      exact ih e.on o2 (by omega) ho2 (hdown _ _ (hw e he hb) ho2) r hr
end Go.Ideal
namespace Go.Ideal
open Go
def Base.hold (w0 : Base) (r : Nat) (x : Obj) : Base := { w := w0.w, S := fun k => w0.S k ∨ k = r, o := fun k => if k = r then some x else w0.o k }
def Base.free (w0 : Base) (r : Nat) : Base := { w := w0.w, S := fun k => w0.S k ∧ k ≠ r, o := w0.o }
def rowOf (i : TypeInfo) (n : Nat) : Option (Array Value) :=
  if n * i.size = 0 then some #[] else match i.zero with
    | some z => some ((Array.range (n * i.size)).map (z.cells[· % z.cells.size]!))
    | none => none
def freshObj (P : Program) (op : Op) (ρ : Operand → Value) : Option (Obj × (Nat → Value)) :=
  match op with
  | .alloc e => match P.info? e with
    | some i => match i.zero with
      | some z => some (.cells z.cells e, fun b => .pointer (some ⟨b, 0, none⟩))
      | none => none
    | none => none
  | .buildSlice t len parts => match P.underlying t with
    | some (.slice e) => match P.info? e with
      | some i =>
        if len * i.size > 2 ^ 24 ∨ (len * i.size ≠ 0 ∧ i.zero.isNone = true) then none else
        match Instr.fill (fun j => some (j * i.size, i.size)) ((Array.range (len * i.size)).map fun k => ((match i.zero with | some z => if len * i.size = 0 then #[] else z.cells | none => #[]) : Array Value)[k % ((match i.zero with | some z => if len * i.size = 0 then #[] else z.cells | none => #[]) : Array Value).size]!) (parts.map fun (j, x) => (j, ρ x)).toList with
        | some cs => some (.cells cs e, fun b => .slice (some ⟨b, 0, none⟩) len len)
        | none => none
      | none => none
    | _ => none
  | .makeSlice t l c => match P.underlying t, ρ l, ρ c with
    | some (.slice e), .int _ n, .int _ m => match P.info? e with
      | some i =>
        if IntKind.i64.wrap m < 0 ∨ (i.bytes : Int) * IntKind.i64.wrap m > 2 ^ 48 ∨ IntKind.i64.wrap n < 0 ∨ IntKind.i64.wrap n > IntKind.i64.wrap m then none else
        match rowOf i (IntKind.i64.wrap m).toNat with
        | some cs => some (.cells cs e, fun b => .slice (some ⟨b, 0, none⟩) (IntKind.i64.wrap n).toNat (IntKind.i64.wrap m).toNat)
        | none => none
      | none => none
    | _, _, _ => none
  | .makeMap _ none => some (.map #[] 0, fun b => .map (some b))
  | _ => none
def FRel (β : Beta) (x x' : Obj) : Prop := (∃ cs cs' e, x = .cells cs e ∧ x' = .cells cs' e ∧ AR β cs cs') ∨ (x = .map #[] 0 ∧ x' = .map #[] 0)
theorem FRel.mono {β β' : Beta} (h : β.le β') {x x' : Obj} (hf : FRel β x x') : FRel β' x x' := by
  rcases hf with ⟨cs, cs', e, h1, h2, h3⟩ | h1
  · exact .inl ⟨cs, cs', e, h1, h2, h3.mono h⟩
  · exact .inr h1
def biOf (P : Program) (r : Nat) : Obj → BI
  | .cells cs e _ => ⟨r, 0, cs.size, ((P.info? e).map (·.size)).getD 0, cs.size⟩
  | _ => ⟨r, 0, 0, 0, 0⟩
theorem biOf_r (P : Program) (r : Nat) (x : Obj) : (biOf P r x).r = r := by cases x <;> rfl
theorem biOf_d (P : Program) (r : Nat) (x : Obj) : (biOf P r x).d = 0 := by cases x <;> rfl
section
variable {P : Program} {B : Nat} {w0 : Base} {β : Beta}
theorem R.early {σ w : World} (h : R P B w0 β σ w) (x : Obj) : R P B (w0.hold w.heap.size x) β σ (w.alloc x) where
  below := h.below.alloc h.size x
  held := fun k hk => by
    rcases hk with hk | rfl
    · obtain ⟨y, hy, hy2⟩ := h.held k hk
      have hne : k ≠ w.heap.size := Nat.ne_of_lt (Array.getElem?_eq_some_iff.1 hy).1
      exact ⟨y, by rw [alloc_heap, if_neg hne]; exact hy, by simp only [Base.hold, if_neg hne]; exact hy2⟩
    · exact ⟨x, by rw [alloc_heap, if_pos rfl], by simp [Base.hold]⟩
  size := by have := h.size; simp; omega
  dom := h.dom
  cov := h.cov
  obj := fun b o bi hb hbi hl => by
    obtain ⟨o', ho', hor⟩ := h.obj b o bi hb hbi hl
    exact ⟨o', by rw [alloc_heap, if_neg (Nat.ne_of_lt (Array.getElem?_eq_some_iff.1 ho').1)]; exact ho', hor⟩
  dd := h.dd
  esz := h.esz
  new := h.new
  free := fun b o bi hb hbi hl => by
    rintro (hs | hr)
    · exact h.free b o bi hb hbi hl hs
    · exact absurd (h.lt hb hbi hl) (by rw [hr]; exact Nat.lt_irrefl _)
  inj := h.inj
theorem R.late {σ w : World} (h : R P B w0 β σ w) {r : Nat} {x x' : Obj} (hr : w0.S r) (ho : w0.o r = some x') (hB : B ≤ r) (hf : FRel β x x') :
    R P B (w0.free r) (β.put σ.heap.size (biOf P r x)) (σ.alloc x) w := by
  have hle := Beta.le_put (bi := biOf P r x) h.fresh
  have hold : ∀ k bk, k ≠ σ.heap.size → (β.put σ.heap.size (biOf P r x)) k = some bk → β k = some bk := fun k bk hk e => by
    unfold Beta.put at e; rwa [if_neg hk] at e
  have hnew : ∀ bk, (β.put σ.heap.size (biOf P r x)) σ.heap.size = some bk → bk = biOf P r x := fun bk e => by
    unfold Beta.put at e; rw [if_pos rfl] at e; simpa using e.symm
  obtain ⟨y, hx, hx2⟩ := h.held r hr
  rw [ho] at hx2
  simp only [Option.some.injEq] at hx2
  subst hx2
  have hxl : live x = true := by rcases hf with ⟨cs, cs', e, rfl, _, _⟩ | ⟨rfl, _⟩ <;> rfl
  refine { below := h.below, held := fun k hk => h.held k hk.1, size := h.size, dom := ?_, cov := ?_, obj := ?_, dd := ?_, esz := ?_, new := ?_, free := ?_, inj := ?_ }
  · intro k bk hk
    by_cases ek : k = σ.heap.size
    · subst ek; simp
    · have := h.dom k bk (hold _ _ ek hk)
      simp; omega
  · intro k hk
    by_cases ek : k = σ.heap.size
    · subst ek; exact ⟨_, by unfold Beta.put; rw [if_pos rfl]⟩
    · obtain ⟨bk, hb⟩ := h.cov k (by simp at hk; omega)
      exact ⟨bk, hle _ _ hb⟩
  · intro k ok bk hk hbk hl
    rw [alloc_heap] at hk
    by_cases ek : k = σ.heap.size
    · subst ek
      rw [if_pos rfl] at hk
      have := hnew _ hbk
      subst this
      simp only [Option.some.injEq] at hk
      subst hk
      rcases hf with ⟨cs, cs', e, rfl, rfl, hc⟩ | ⟨rfl, rfl⟩
      · refine ⟨_, by rw [biOf_r]; exact hx, .cells rfl hc.1.symm (by simp [biOf]) (fun i v hv => ?_) (.inl ⟨rfl, rfl⟩)⟩
        obtain ⟨v', hv', hvr⟩ := hc.get hv
        exact ⟨v', by simpa [biOf] using hv', hvr.mono hle⟩
      · exact ⟨_, by rw [biOf_r]; exact hx, .map rfl fun i x x' e => by simp at e⟩
    · rw [if_neg ek] at hk
      have hb' := hold _ _ ek hbk
      obtain ⟨o2, ho2, hor⟩ := h.obj _ _ _ hk hb' hl
      exact ⟨o2, ho2, hor.mono hle⟩
  · intro k o3 hk hl
    rw [alloc_heap] at hk
    by_cases ek : k = σ.heap.size
    · rw [if_pos ek] at hk
      simp only [Option.some.injEq] at hk
      subst hk
      rw [hxl] at hl; cases hl
    · rw [if_neg ek] at hk
      exact h.dd _ _ hk hl
  · intro k c e' fz bk hk hl hbk i hi
    rw [alloc_heap] at hk
    by_cases ek : k = σ.heap.size
    · subst ek
      rw [if_pos rfl] at hk
      have := hnew _ hbk
      subst this
      simp only [Option.some.injEq] at hk
      subst hk
      simp only [biOf]
      rw [hi]; rfl
    · rw [if_neg ek] at hk
      exact h.esz _ _ _ _ _ hk hl (hold _ _ ek hbk) i hi
  · intro k ok bk hk hbk hl
    rw [alloc_heap] at hk
    by_cases ek : k = σ.heap.size
    · subst ek
      have := hnew _ hbk
      subst this
      rw [biOf_r]; exact hB
    · rw [if_neg ek] at hk
      exact h.new _ _ _ hk (hold _ _ ek hbk) hl
  · intro k ok bk hk hbk hl hs
    rw [alloc_heap] at hk
    by_cases ek : k = σ.heap.size
    · subst ek
      have := hnew _ hbk
      subst this
      rw [biOf_r] at hs
      exact hs.2 rfl
    · rw [if_neg ek] at hk
      exact h.free _ _ _ hk (hold _ _ ek hbk) hl hs.1
  · intro k1 k2 o1 o2 b1 b2 h1 h2 e1 e2 hw1 hl2 hrr
    rw [alloc_heap] at h1 h2
    by_cases g1 : k1 = σ.heap.size
    · by_cases g2 : k2 = σ.heap.size
      · rw [g1, g2]
      · exfalso
        subst g1
        have := hnew _ e1
        subst this
        rw [if_neg g2] at h2
        rw [biOf_r] at hrr
        exact h.free _ _ _ h2 (hold _ _ g2 e2) hl2 (by rw [← hrr]; exact hr)
    · by_cases g2 : k2 = σ.heap.size
      · exfalso
        subst g2
        have := hnew _ e2
        subst this
        rw [if_neg g1] at h1
        rw [biOf_r] at hrr
        exact h.free _ _ _ h1 (hold _ _ g1 e1) (live_of_wr hw1) (by rw [hrr]; exact hr)
      · rw [if_neg g1] at h1
        rw [if_neg g2] at h2
        exact h.inj _ _ _ _ _ _ h1 h2 (hold _ _ g1 e1) (hold _ _ g2 e2) hw1 hl2 hrr
def lateFit (P : Program) : Op → Bool
  | .alloc e => zeroOk P e
  | .buildSlice t n _ => elemOk P t && decide (n < 1000000)
  | .makeSlice t _ _ => elemOk P t
  | .makeMap _ none => true
  | _ => false
def capBound (op : Op) (ρ : Operand → Value) : Prop := match op with
  | .makeSlice _ _ c => capFit (ρ c) = true
  | .buildSlice _ n _ => n < 1000000
  | _ => True
theorem fresh_shape {op : Op} {ρ : Operand → Value} {x : Obj} {sh : Nat → Value} (h : freshObj P op ρ = some (x, sh)) (hfit : capBound op ρ)
    {b r : Nat} {bi : BI} (hb : β b = some bi) (hr : bi.r = r) (hd : bi.d = 0) : VR β (sh b) (sh r) := by
  subst hr
  unfold freshObj at h
  split at h
  · split at h
    · split at h
      · simp only [Option.some.injEq, Prod.mk.injEq] at h
        obtain ⟨_, rfl⟩ := h
        have := VR.ptr (β := β) (o := 0) hb
        rw [hd] at this
        exact this
      · cases h
    · cases h
  · rename_i t len parts
    split at h
    · split at h
      · split at h
        · cases h
        · split at h
          · simp only [Option.some.injEq, Prod.mk.injEq] at h
            obtain ⟨_, rfl⟩ := h
            have : len < 1000000 := hfit
            exact .slice hb (.inl ⟨by unfold OPEN; omega, rfl, Nat.le_refl _, .inl (by rw [hd])⟩)
          · cases h
      · cases h
    · cases h
  · rename_i t l c
    split at h
    · rename_i e k n j m hu hl hc
      split at h
      · split at h
        · cases h
        · rename_i hcond
          split at h
          · simp only [Option.some.injEq, Prod.mk.injEq] at h
            obtain ⟨_, rfl⟩ := h
            have hfit' : capFit (ρ c) = true := hfit
            rw [hc] at hfit'
            simp only [capFit, decide_eq_true_eq] at hfit'
            exact .slice hb (.inl ⟨by unfold OPEN; omega, rfl, by omega, .inl (by rw [hd])⟩)
          · cases h
      · cases h
    · cases h
  · simp only [Option.some.injEq, Prod.mk.injEq] at h
    obtain ⟨_, rfl⟩ := h
    exact .map hb
  · cases h
theorem run_asInt (k : IntKind) (n : Int) (w : World) : (asInt (.int k n)).run P w = .ok n w := by simp [asInt, asIntOf]
theorem run_askRoom (n : Nat) (w : World) : (askRoom n).run P w = .ok () w := by
  unfold askRoom
  split <;> rfl
theorem run_makeSlice {t e : TypeId} {i : TypeInfo} {k j : IntKind} {n m : Int} {cs : Array Value} (hu : P.underlying t = some (.slice e)) (hi : P.info? e = some i)
    (hc : ¬ (IntKind.i64.wrap m < 0 ∨ (i.bytes : Int) * IntKind.i64.wrap m > 2 ^ 48 ∨ IntKind.i64.wrap n < 0 ∨ IntKind.i64.wrap n > IntKind.i64.wrap m))
    (hr : rowOf i (IntKind.i64.wrap m).toNat = some cs) (w : World) :
    (Instr.makeSlice t (.int k n) (.int j m)).run P w = .ok (.slice (some ⟨w.heap.size, 0, none⟩) (IntKind.i64.wrap n).toNat (IntKind.i64.wrap m).toNat) (w.alloc (.cells cs e)) := by
  simp only [not_or, gt_iff_lt, Int.not_lt] at hc
  obtain ⟨h1, h2, h3, h4⟩ := hc
  have hti : ∀ w : World, (typeInfo e).run P w = .ok i w := fun w => by simp [typeInfo, Sem.run_bind, hi, Result.andThen]
  have a1 : ¬ IntKind.i64.wrap m < 0 := by omega
  have a2 : ¬ (i.bytes : Int) * IntKind.i64.wrap m > 2 ^ 48 := by omega
  have a3 : ¬ IntKind.i64.wrap n < 0 := by omega
  have a4 : ¬ IntKind.i64.wrap n > IntKind.i64.wrap m := by omega
  simp only [Instr.makeSlice, Sem.run_bind, run_underlying' hu, Result.andThen, run_asInt, hti, a1, a2, a3, a4, decide_false, Bool.or_self, Bool.false_eq_true, if_false, run_askRoom, run_sizeOf' hi]
  unfold rowOf at hr
  split at hr
  · rename_i h0
    simp only [Option.some.injEq] at hr
    subst hr
    rw [if_pos h0]
    simp only [Sem.run_bind, Sem.run_pure, Result.andThen, h0]
    have he : (Array.range 0).map ((#[] : Array Value)[· % (#[] : Array Value).size]!) = #[] := by simp
    rw [he]
    simp [newRow, Result.andThen]
  · rename_i h0
    rw [if_neg h0]
    split at hr
    · rename_i z hz
      simp only [Option.some.injEq] at hr
      subst hr
      have hzv : (zeroValue e).run P w = .ok z w := by simp [zeroValue, typeInfo, Sem.run_bind, hi, hz, Result.andThen]
      simp only [Sem.run_bind, hzv, Result.andThen, Sem.run_pure]
      simp [newRow, Result.andThen]
    · cases hr
theorem stillP_asInt (l : Value) : StillP (asInt l) P (fun n => ∃ k, l = .int k n) := by
  cases l with
  | int k n => exact stillP_pure ⟨k, rfl⟩
  | pointer p => cases p <;> exact stillP_never (never_left (never_halt _))
  | _ => exact stillP_never (never_left (never_halt _))
theorem stillP_typeInfo (t : TypeId) : StillP (typeInfo t) P (fun i => P.info? t = some i) := fun σ w v σ' hu => by
  have := still_typeInfo (P := P) t σ w v σ' hu
  refine ⟨this.1, this.2, ?_⟩
  cases hi : P.info? t with
  | none => simp [typeInfo, Sem.run_bind, hi, Result.andThen] at hu
  | some i => simp [typeInfo, Sem.run_bind, hi, Result.andThen] at hu; rw [hu.1]
theorem never_makeSlice {t : TypeId} {l c : Value} (h : ∀ e i k j n m, P.underlying t = some (.slice e) → P.info? e = some i → l = .int k n → c = .int j m →
      (IntKind.i64.wrap m < 0 ∨ (i.bytes : Int) * IntKind.i64.wrap m > 2 ^ 48 ∨ IntKind.i64.wrap n < 0 ∨ IntKind.i64.wrap n > IntKind.i64.wrap m) ∨ rowOf i (IntKind.i64.wrap m).toNat = none) : Never (Instr.makeSlice t l c) P := by
  have key : StillP (Instr.makeSlice t l c) P (fun _ => False) := by
    unfold Instr.makeSlice
    refine stillP_under fun d hd => ?_
    split
    · rename_i e
      refine stillP_bind (stillP_asInt l) fun n hn => stillP_bind (stillP_asInt c) fun m hm => stillP_bind (stillP_typeInfo e) fun i hi => ?_
      obtain ⟨k, hn⟩ := hn
      obtain ⟨j, hm⟩ := hm
      have hbad := h e i k j n m hd hi hn hm
      dsimp only
      split
      · refine stillP_never ?_
        split
        · exact never_left (never_runtimePanic _)
        · split
          · exact never_left (never_runtimePanic _)
          · exact never_bind fun _ => never_left (never_runtimePanic _)
      · rename_i hcond
        simp only [Bool.or_eq_true, decide_eq_true_eq, not_or] at hcond
        rcases hbad with hb | hb
        · exact absurd hb (by omega)
        · refine stillP_bind (still_askRoom _).p fun _ _ => ?_
          have hsz : StillP (sizeOf e) P (fun k => k = i.size) := fun σ w v σ' hu => by
            have := still_sizeOf (P := P) e σ w v σ' hu
            refine ⟨this.1, this.2, ?_⟩
            rw [run_sizeOf' hi] at hu
            simp only [Result.ok.injEq] at hu
            exact hu.1.symm
          refine stillP_bind hsz fun z hz => ?_
          subst hz
          unfold rowOf at hb
          split at hb
          · cases hb
          · rename_i h0
            rw [if_neg h0]
            split at hb
            · cases hb
            · rename_i hzn
              refine stillP_never (never_left (s := zeroValue e) ?_)
              intro σ v σ' hu
              simp only [zeroValue, typeInfo, Sem.run_bind, run_program, hi, Sem.run_pure, Result.andThen, hzn, run_unsupported] at hu
              cases hu
    · exact stillP_halt _
  intro σ v σ' hu
  exact (key σ σ v σ' hu).2.2
theorem fresh_run {o : Oper} {ρ : Operand → Value} {x : Obj} {sh : Nat → Value} (h : freshObj P o.op ρ = some (x, sh)) (w : World) :
    (execOp ρ o).run P w = .ok (.value (sh w.heap.size)) (w.alloc x) := by
  obtain ⟨dst, op, ty, pos, after, guard⟩ := o
  simp only at h
  unfold freshObj at h
  split at h
  · split at h
    · rename_i i hi
      split at h
      · rename_i z hz
        simp only [Option.some.injEq, Prod.mk.injEq] at h
        obtain ⟨rfl, rfl⟩ := h
        simp [execOp, Instr.alloc, Sem.run_bind, zeroValue, typeInfo, hi, hz, Result.andThen, newVar, newRow]
      · cases h
    · cases h
  · rename_i t len parts
    split at h
    · rename_i e' hu
      split at h
      · rename_i i hi
        split at h
        · cases h
        · rename_i hc
          split at h
          · rename_i cs' hf
            simp only [Option.some.injEq, Prod.mk.injEq] at h
            obtain ⟨rfl, rfl⟩ := h
            have hbig : ¬ len * i.size > 2 ^ 24 := fun hh => hc (.inl hh)
            by_cases h0 : len * i.size = 0
            · have hf' : Instr.fill (fun j => some (j * i.size, i.size)) ((Array.range (len * i.size)).map ((#[] : Array Value)[· % (#[] : Array Value).size]!)) (parts.map fun (j, x) => (j, ρ x)).toList = some cs' := by
                have : (Array.range (len * i.size)).map ((#[] : Array Value)[· % (#[] : Array Value).size]!) = (Array.range (len * i.size)).map fun k => ((match i.zero with | some z => if len * i.size = 0 then #[] else z.cells | none => #[]) : Array Value)[k % ((match i.zero with | some z => if len * i.size = 0 then #[] else z.cells | none => #[]) : Array Value).size]! := by rw [h0]; simp
                rw [this]; exact hf
              simp only [execOp, Instr.buildSlice, Sem.run_bind, run_underlying' hu, Result.andThen, run_sizeOf' hi w, hbig, if_false, if_pos h0, Sem.run_pure, hf']
              simp [newRow, Result.andThen]
            · cases hz : i.zero with
              | none => exact absurd (.inr ⟨h0, by rw [hz]; rfl⟩) hc
              | some z =>
                have hf' : Instr.fill (fun j => some (j * i.size, i.size)) ((Array.range (len * i.size)).map (z.cells[· % z.cells.size]!)) (parts.map fun (j, x) => (j, ρ x)).toList = some cs' := by
                  rw [hz] at hf; simp only [h0, if_false] at hf; exact hf
                have hzv : (zeroValue e').run P w = .ok z w := by simp [zeroValue, typeInfo, Sem.run_bind, hi, hz, Result.andThen]
                simp only [execOp, Instr.buildSlice, Sem.run_bind, run_underlying' hu, Result.andThen, run_sizeOf' hi w, hbig, if_false, if_neg h0, Sem.run_pure, hzv, hf']
                simp [newRow, Result.andThen]
          · cases h
      · cases h
    · cases h
  · rename_i t l c
    split at h
    · rename_i e' k n j m hu hl hc
      split at h
      · rename_i i hi
        split at h
        · cases h
        · rename_i hcond
          split at h
          · rename_i cs' hrow
            simp only [Option.some.injEq, Prod.mk.injEq] at h
            obtain ⟨rfl, rfl⟩ := h
            simp only [execOp, hl, hc, Sem.run_bind, run_makeSlice hu hi hcond hrow w, Result.andThen, Sem.run_pure]
          · cases h
      · cases h
    · cases h
  · simp only [Option.some.injEq, Prod.mk.injEq] at h
    obtain ⟨rfl, rfl⟩ := h
    rfl
  · cases h
theorem fresh_of {o : Oper} {ρ : Operand → Value} {σ : World} {Q : Next × World → Prop} (hl : lateOp o.op = true) (hQ : (istep P ρ o σ).all Q) :
    ∃ x sh, freshObj P o.op ρ = some (x, sh) ∧ Q (.value (sh σ.heap.size), σ.alloc x) ∧ lateFit P o.op = true ∧ capBound o.op ρ := by
  have hc := istep_consts hQ
  have hrun : ∀ {x : Obj} {sh : Nat → Value}, freshObj P o.op ρ = some (x, sh) → ∀ w, (execOp ρ o).run P w = .ok (.value (sh w.heap.size)) (w.alloc x) := fun h w => fresh_run h w
  obtain ⟨dst, op, ty, pos, after, guard⟩ := o
  simp only at hl hc hrun ⊢
  simp only [istep, hc, if_true] at hQ
  cases op with
  | alloc t =>
    simp only at hQ
    split at hQ
    · rename_i hz0
      cases hf : freshObj P (.alloc t) ρ with
      | some r =>
        obtain ⟨x, sh⟩ := r
        rw [hrun hf σ] at hQ
        exact ⟨x, sh, rfl, hQ, hz0, trivial⟩
      | none =>
        exfalso
        unfold freshObj at hf
        simp only at hf
        cases hi : P.info? t with
        | none => simp [execOp, Instr.alloc, Sem.run_bind, zeroValue, typeInfo, hi, Result.andThen, ofRun] at hQ; exact hQ
        | some i =>
          rw [hi] at hf
          cases hz : i.zero with
          | none => simp [execOp, Instr.alloc, Sem.run_bind, zeroValue, typeInfo, hi, hz, Result.andThen, ofRun] at hQ; exact hQ
          | some z => simp only [hz] at hf; cases hf
    · exact hQ.elim
  | buildSlice t len parts =>
    simp only at hQ
    split at hQ
    · rename_i hz0
      cases hf : freshObj P (.buildSlice t len parts) ρ with
      | some r =>
        obtain ⟨x, sh⟩ := r
        rw [hrun hf σ] at hQ
        simp only [Bool.and_eq_true, decide_eq_true_eq] at hz0
        exact ⟨x, sh, rfl, hQ, by simp [lateFit, hz0], hz0.2⟩
      | none =>
        exfalso
        unfold freshObj at hf
        simp only at hf
        simp only [execOp, Instr.buildSlice, Sem.run_bind] at hQ
        cases hu : P.underlying t with
        | none => simp [underlying, Sem.run_bind, hu, Result.andThen, ofRun] at hQ; exact hQ
        | some d =>
          rw [hu] at hf
          rw [run_underlying' hu] at hQ
          cases d with
          | slice e =>
            simp only at hf
            simp only [Result.andThen, Sem.run_bind] at hQ
            cases hi : P.info? e with
            | none => simp [sizeOf, typeInfo, Sem.run_bind, hi, Result.andThen, ofRun] at hQ; exact hQ
            | some i =>
              rw [hi] at hf
              simp only at hf
              rw [run_sizeOf' hi] at hQ
              simp only at hQ
              by_cases hbig : len * i.size > 2 ^ 24
              · simp [hbig, Sem.run_bind, Result.andThen, ofRun] at hQ; exact hQ
              · by_cases h0 : len * i.size = 0
                · rw [if_neg (by simp [h0])] at hf
                  split at hf
                  · cases hf
                  · rename_i hfill
                    have hrow : (Array.range (len * i.size)).map ((#[] : Array Value)[· % (#[] : Array Value).size]!) = (Array.range (len * i.size)).map fun k => ((match i.zero with | some z => if len * i.size = 0 then #[] else z.cells | none => #[]) : Array Value)[k % ((match i.zero with | some z => if len * i.size = 0 then #[] else z.cells | none => #[]) : Array Value).size]! := by rw [h0]; simp
                    rw [← hrow] at hfill
                    simp only [hbig, if_false, if_pos h0, Sem.run_pure, Result.andThen, Sem.run_bind, hfill, run_stuck, ofRun] at hQ
                    exact hQ
                · cases hz : i.zero with
                  | none =>
                    simp only [hbig, if_false, if_neg h0, Sem.run_bind, zeroValue, typeInfo, run_program, hi, Sem.run_pure, Result.andThen, hz, run_unsupported, ofRun] at hQ
                    exact hQ
                  | some z =>
                    rw [hz] at hf
                    rw [if_neg (by simp [hbig])] at hf
                    split at hf
                    · cases hf
                    · rename_i hfill
                      simp only [h0, if_false] at hfill
                      simp only [hbig, if_false, if_neg h0, Sem.run_bind, zeroValue, typeInfo, run_program, hi, Sem.run_pure, Result.andThen, hz, hfill, run_stuck, ofRun] at hQ
                      exact hQ
          | _ => simp [Result.andThen, ofRun] at hQ; exact hQ
    · exact hQ.elim
  | makeSlice t l c =>
    simp only at hQ
    split at hQ
    · rename_i hz0
      simp only [Bool.and_eq_true] at hz0
      cases hf : freshObj P (.makeSlice t l c) ρ with
      | some r =>
        obtain ⟨x, sh⟩ := r
        rw [hrun hf σ] at hQ
        exact ⟨x, sh, rfl, hQ, hz0.1, hz0.2⟩
      | none =>
        exfalso
        have hn : Never (Instr.makeSlice t (ρ l) (ρ c)) P := never_makeSlice fun e i k j n m h1 h2 h3 h4 => by
          unfold freshObj at hf
          simp only [h1, h2, h3, h4] at hf
          split at hf
          · exact .inl ‹_›
          · split at hf
            · cases hf
            · exact .inr ‹_›
        simp only [execOp, Sem.run_bind] at hQ
        cases hr : (Instr.makeSlice t (ρ l) (ρ c)).run P σ with
        | ok v σ' => exact hn _ _ _ hr
        | halt a b => rw [hr] at hQ; exact hQ
    · exact hQ.elim
  | makeMap t r =>
    cases r with
    | none =>
      have hf : freshObj P (.makeMap t none) ρ = some (.map #[] 0, fun b => .map (some b)) := rfl
      simp only at hQ
      rw [hrun hf σ] at hQ
      exact ⟨_, _, hf, hQ, rfl, trivial⟩
    | some r => cases hl
  | _ => cases hl
theorem parts_rel {ρ ρ' : Operand → Value} : ∀ (l : List (Nat × Operand)), (∀ p ∈ l, VR β (ρ p.2) (ρ' p.2)) → PartR β (l.map fun (j, x) => (j, ρ x)) (l.map fun (j, x) => (j, ρ' x))
  | [], _ => trivial
  | p :: l, h => ⟨rfl, h p (by simp), parts_rel l fun q hq => h q (by simp [hq])⟩
theorem fresh_rel {o : Oper} {ρ ρ' : Operand → Value} {x : Obj} {sh : Nat → Value} (hfit : lateFit P o.op = true) (hc : o.op.operands.all constFit = true) (hρ : Rho β o ρ ρ') (h : freshObj P o.op ρ = some (x, sh)) :
    ∃ x', freshObj P o.op ρ' = some (x', sh) ∧ FRel β x x' := by
  obtain ⟨dst, op, ty, pos, after, guard⟩ := o
  simp only at hfit hc h ⊢
  have hop : ∀ x ∈ op.operands.toList, constFit x = true := fun x hx => by
    have h0 := Array.all_eq_true.1 hc
    obtain ⟨i, hi, rfl⟩ := List.mem_iff_getElem.1 hx
    exact h0 i (by simpa using hi)
  have hv : ∀ x ∈ op.operands.toList, VR β (ρ x) (ρ' x) := fun x hx => hρ x hx (hop x hx)
  unfold freshObj at h ⊢
  split at h
  · rename_i e0
    split at h
    · rename_i i hi
      split at h
      · rename_i z hz
        simp only [Option.some.injEq, Prod.mk.injEq] at h
        obtain ⟨rfl, rfl⟩ := h
        exact ⟨.cells z.cells _, rfl, .inl ⟨_, _, _, rfl, rfl, (zero_self (P := P) hfit hi hz β).cells⟩⟩
      · cases h
    · cases h
  · rename_i t len parts
    split at h
    · rename_i e' hu
      split at h
      · rename_i i hi
        split at h
        · cases h
        · rename_i hcc
          split at h
          · rename_i cs0 hf
            simp only [Option.some.injEq, Prod.mk.injEq] at h
            obtain ⟨rfl, rfl⟩ := h
            have hzz : AR β (match i.zero with | some z => if len * i.size = 0 then #[] else z.cells | none => #[]) (match i.zero with | some z => if len * i.size = 0 then #[] else z.cells | none => #[]) := by
              cases hz : i.zero with
              | none => exact AR.empty β
              | some z =>
                simp only
                split
                · exact AR.empty β
                · simp only [lateFit, Bool.and_eq_true] at hfit
                  exact (zero_self (P := P) (elemOk_slice hfit.1 hu) hi hz β).cells
            have hparts : PartR β (parts.map fun (j, x) => (j, ρ x)).toList (parts.map fun (j, x) => (j, ρ' x)).toList := by
              rw [Array.toList_map, Array.toList_map]
              exact parts_rel _ fun p hp => hv p.2 (by simp [Op.operands]; exact ⟨p.1, by simpa using hp⟩)
            obtain ⟨c', h1, h2⟩ := fill_rel (β := β) (fun j => some (j * i.size, i.size)) _ _ _ _ hparts (hzz.row (len * i.size)) _ hf
            simp only [hcc, if_false]
            rw [h1]
            exact ⟨.cells c' _, rfl, .inl ⟨_, _, _, rfl, rfl, h2⟩⟩
          · cases h
      · cases h
    · cases h
  · rename_i t l c
    have hl := hv l (by simp [Op.operands])
    have hcv := hv c (by simp [Op.operands])
    split at h
    · rename_i e' k n j m hu hl0 hc0
      rw [hl0] at hl
      rw [hc0] at hcv
      split at h
      · rename_i i hi
        split at h
        · cases h
        · rename_i hcond
          split at h
          · rename_i cs' hrow
            simp only [Option.some.injEq, Prod.mk.injEq] at h
            obtain ⟨rfl, rfl⟩ := h
            have e1 : ρ' l = .int k n := by
              generalize ρ' l = y at hl ⊢
              cases hl; rfl
            have e2 : ρ' c = .int j m := by
              generalize ρ' c = y at hcv ⊢
              cases hcv; rfl
            refine ⟨.cells cs' e', by simp only [hu, e1, e2, hi, hcond, if_false, hrow], .inl ⟨_, _, _, rfl, rfl, ?_⟩⟩
            unfold rowOf at hrow
            split at hrow
            · simp only [Option.some.injEq] at hrow
              subst hrow
              exact AR.empty β
            · split at hrow
              · rename_i z hz
                simp only [Option.some.injEq] at hrow
                subst hrow
                exact (zero_self (P := P) (elemOk_slice hfit hu) hi hz β).cells.row _
              · cases hrow
          · cases h
      · cases h
    · cases h
  · simp only [Option.some.injEq, Prod.mk.injEq] at h
    obtain ⟨rfl, rfl⟩ := h
    exact ⟨_, rfl, .inr ⟨rfl, rfl⟩⟩
  · cases h
end
end Go.Ideal
namespace Go.Ideal
open Go
structure Item where
  i : Nat
  o : Oper
  A : Act
  v : Value
section
variable {P : Program} {B : Nat} {w0 : Base} {ops : Array Oper}
structure ActX (D : List Tmp) (β : Beta) (a a' : Act) : Prop where
  size : a.tmps.size = a'.tmps.size
  tmps : ∀ t, t ∉ D → ∀ v v', a.tmps[t]? = some v → a'.tmps[t]? = some v' → VR β v v'
  defers : DR β a.defers a'.defers
theorem ActX.mono {D : List Tmp} {β β' : Beta} (h : β.le β') {a a' : Act} (ha : ActX D β a a') : ActX D β' a a' := ⟨ha.size, fun t ht v v' e e' => (ha.tmps t ht v v' e e').mono h, ha.defers.mono h⟩
theorem ActX.slots {D : List Tmp} {β : Beta} {a a' : Act} (h : ActX D β a a') {l : List Tmp} (hl : ∀ t ∈ l, t ∉ D) : Slots β l a a' := ⟨h.size, fun t ht v v' e e' => h.tmps t (hl t ht) v v' e e'⟩
theorem ActX.whole {β : Beta} {a a' : Act} (h : ActX [] β a a') : ActR β a a' := ⟨⟨h.size, fun t v v' e e' => h.tmps t (by simp) v v' e e'⟩, h.defers⟩
theorem ActX.of {β : Beta} {a a' : Act} (h : ActR β a a') : ActX [] β a a' := ⟨h.tmps.1, fun t _ v v' e e' => h.tmps.2 t v v' e e', h.defers⟩
theorem put_defers' (a : Act) (d : Option Tmp) (v : Value) : (a.put d v).defers = a.defers := by cases d <;> rfl
def RunP (D : List Tmp) (ops : Array Oper) : List Item → Beta → Act → Act → Prop
  | [], β, aR, aI => ActX D β aI aR
  | it :: ps, β, aR, aI => Slots β (it.o.looksAt ops) it.A aR ∧ ∀ β2 v', β.le β2 → VR β2 it.v v' → RunP D ops ps β2 (aR.put it.o.dst v') aI
def Has (β : Beta) (ps : List Item) : Prop := ∀ it ∈ ps, ∃ v', VR β it.v v'
theorem Has.mono {β β' : Beta} (h : β.le β') {ps : List Item} (hp : Has β ps) : Has β' ps := fun it hi => let ⟨v', hv⟩ := hp it hi; ⟨v', hv.mono h⟩
theorem RunP.mono {D : List Tmp} {β β' : Beta} (h : β.le β') : ∀ {ps : List Item} {aR aI : Act}, RunP D ops ps β aR aI → RunP D ops ps β' aR aI
  | [], _, _, hp => ActX.mono h hp
  | _ :: _, _, _, hp => ⟨hp.1.mono h, fun β2 v' h2 hv => hp.2 β2 v' (h.trans h2) hv⟩
theorem RunP.virtual {D : List Tmp} {β : Beta} : ∀ {ps : List Item} {aR aI : Act}, Has β ps → RunP D ops ps β aR aI → ∃ aV, ActX D β aI aV
  | [], aR, _, _, hp => ⟨aR, hp⟩
  | it :: ps, aR, aI, hh, hp => by
    obtain ⟨v', hv⟩ := hh it (by simp)
    exact RunP.virtual (fun x hx => hh x (by simp [hx])) (hp.2 β v' (.refl _) hv)
theorem put_get_ne (a : Act) {d : Option Tmp} {t : Tmp} (v : Value) (h : d ≠ some t) : (a.put d v).tmps[t]? = a.tmps[t]? := by
  cases d with
  | none => rfl
  | some d =>
    have hne : d ≠ t := fun e => h (e ▸ rfl)
    simp [Act.put, Array.getElem?_setIfInBounds_ne hne]
theorem put_size (a : Act) (d : Option Tmp) (v : Value) : (a.put d v).tmps.size = a.tmps.size := by
  cases d <;> simp [Act.put]
theorem Slots.of_put {β : Beta} {l : List Tmp} {a a' : Act} {d : Option Tmp} {v : Value} (hd : ∀ x, d = some x → x ∉ l) (h : Slots β l a (a'.put d v)) : Slots β l a a' :=
  ⟨by rw [h.1, put_size], fun t ht u u' e e' => h.2 t ht u u' e (by rw [put_get_ne _ _ (fun hh => hd t hh ht)]; exact e')⟩
theorem Slots.to_put {β : Beta} {l : List Tmp} {a a' : Act} {d : Option Tmp} {v : Value} (hd : ∀ x, d = some x → x ∉ l) (h : Slots β l a a') : Slots β l a (a'.put d v) :=
  ⟨by rw [put_size, h.1], fun t ht u u' e e' => h.2 t ht u u' e (by rw [put_get_ne _ _ (fun hh => hd t hh ht)] at e'; exact e')⟩
theorem ActX.put {D : List Tmp} {β : Beta} {a a' : Act} (h : ActX D β a a') (d : Option Tmp) {v v' : Value} (hv : VR β v v') : ActX D β (a.put d v) (a'.put d v') := by
  cases d with
  | none => exact h
  | some d =>
    refine ⟨by rw [put_size, put_size, h.size], fun t ht u u' e e' => ?_, h.defers⟩
    simp only [Act.put, Array.getElem?_setIfInBounds] at e e'
    rw [h.size] at e
    split at e
    · split at e
      · rename_i h1 h2
        rw [if_pos h1, if_pos h2] at e'
        simp only [Option.some.injEq] at e e'
        subst e; subst e'; exact hv
      · cases e
    · rename_i h1
      rw [if_neg h1] at e'
      exact h.tmps t ht u u' e e'
theorem RunP.slots {D : List Tmp} {β : Beta} {l : List Tmp} (hD : ∀ t ∈ l, t ∉ D) : ∀ {ps : List Item} {aR aI : Act}, Has β ps → RunP D ops ps β aR aI → (∀ it ∈ ps, ∀ x, it.o.dst = some x → x ∉ l) → Slots β l aI aR
  | [], _, _, _, hp, _ => ActX.slots hp hD
  | it :: ps, aR, aI, hh, hp, hd => by
    obtain ⟨v', hv⟩ := hh it (by simp)
    exact Slots.of_put (hd it (by simp)) (RunP.slots hD (fun x hx => hh x (by simp [hx])) (hp.2 β v' (.refl _) hv) (fun x hx => hd x (by simp [hx])))
theorem RunP.size {D : List Tmp} {β : Beta} : ∀ {ps : List Item} {aR aI : Act}, Has β ps → RunP D ops ps β aR aI → aI.tmps.size = aR.tmps.size ∧ ∀ it ∈ ps, it.A.tmps.size = aR.tmps.size
  | [], _, _, _, hp => ⟨ActX.size hp, fun it hi => by cases hi⟩
  | it :: ps, aR, aI, hh, hp => by
    obtain ⟨v', hv⟩ := hh it (by simp)
    have h := RunP.size (fun x hx => hh x (by simp [hx])) (hp.2 β v' (.refl _) hv)
    rw [put_size] at h
    refine ⟨h.1, fun x hx => ?_⟩
    rcases List.mem_cons.1 hx with rfl | hx
    · exact hp.1.1
    · exact h.2 x hx
theorem RunP.push {D : List Tmp} {i : Nat} {o : Oper} {v : Value} (hD : ∀ t ∈ o.looksAt ops, t ∉ D) : ∀ {ps : List Item} {β : Beta} {aR aI : Act}, RunP D ops ps β aR aI → RunP D ops (ps ++ [⟨i, o, aI, v⟩]) β aR (aI.put o.dst v)
  | [], _β, _aR, _aI, hp => ⟨ActX.slots hp hD, fun _β2 _v' hle hv => (ActX.mono hle hp).put _ hv⟩
  | _it :: _ps, _β, _aR, _aI, hp => ⟨hp.1, fun β2 v' hle hv => RunP.push hD (hp.2 β2 v' hle hv)⟩
theorem RunP.take {D : List Tmp} {it : Item} {ps2 : List Item} : ∀ {ps1 : List Item} {β : Beta} {aR aI : Act}, Has β (ps1 ++ it :: ps2) → (∀ p ∈ ps1, p.o.apart ops it.o = true) → RunP D ops (ps1 ++ it :: ps2) β aR aI →
    Slots β (it.o.looksAt ops) it.A aR ∧ ∀ β2 v', β.le β2 → VR β2 it.v v' → RunP D ops (ps1 ++ ps2) β2 (aR.put it.o.dst v') aI
  | [], β, aR, aI, _, _, hp => ⟨hp.1, fun β2 v' hle hv => hp.2 β2 v' hle hv⟩
  | p :: ps1, β, aR, aI, hh, ha, hp => by
    obtain ⟨h1, h2, h3⟩ := Oper.apart_spec (ha p (by simp))
    have hh' : Has β (ps1 ++ it :: ps2) := fun x hx => hh x (List.mem_cons_of_mem _ hx)
    have ha' : ∀ q ∈ ps1, q.o.apart ops it.o = true := fun q hq => ha q (by simp [hq])
    obtain ⟨vp, hvp⟩ := hh p (by simp)
    refine ⟨Slots.of_put h1 (RunP.take hh' ha' (hp.2 β vp (.refl _) hvp)).1, fun β2 v' hle hv => ⟨(hp.1.mono hle).to_put h3, fun β3 up hle3 hup => ?_⟩⟩
    have := (RunP.take (hh'.mono (hle.trans hle3)) ha' (hp.2 β3 up (hle.trans hle3) hup)).2 β3 v' (.refl _) (hv.mono hle3)
    rw [Act.put_comm _ _ _ (fun d hd hd' => h2 d hd' hd)]
    exact this
theorem RunP.act {D : List Tmp} {d : Option Tmp} {v v' : Value} : ∀ {ps : List Item} {β : Beta} {aR aI : Act}, (∀ p ∈ ps, (∀ x, d = some x → x ∉ p.o.looksAt ops) ∧ ∀ x, d = some x → p.o.dst ≠ some x) → VR β v v' → RunP D ops ps β aR aI →
    RunP D ops ps β (aR.put d v') (aI.put d v)
  | [], β, aR, aI, _, hv, hp => ActX.put hp d hv
  | p :: ps, β, aR, aI, ha, hv, hp => by
    obtain ⟨h1, h2⟩ := ha p (by simp)
    refine ⟨hp.1.to_put h1, fun β2 up hle hup => ?_⟩
    rw [Act.put_comm _ _ _ h2]
    exact RunP.act (fun q hq => ha q (by simp [hq])) (hv.mono hle) (hp.2 β2 up hle hup)
theorem RunP.fewer {D D' : List Tmp} {d : Option Tmp} {v v' : Value} (hD : ∀ t, t ∈ D → t ∈ D' ∨ d = some t) : ∀ {ps : List Item} {β : Beta} {aR aI : Act}, (∀ x, d = some x → x < aR.tmps.size → aR.tmps[x]? = some v') →
    (∀ p ∈ ps, ∀ x, d = some x → p.o.dst ≠ some x) → VR β v v' → RunP D ops ps β aR aI → RunP D' ops ps β aR (aI.put d v)
  | [], β, aR, aI, hs, _, hv, hp => by
    have hp : ActX D β aI aR := hp
    refine ⟨by rw [put_size]; exact hp.size, fun t ht u u' e e' => ?_, by rw [put_defers']; exact hp.defers⟩
    by_cases hd : d = some t
    · subst hd
      have hlt : t < aR.tmps.size := (Array.getElem?_eq_some_iff.1 e').1
      rw [hs t rfl hlt] at e'
      simp only [Act.put, Array.getElem?_setIfInBounds, if_true] at e
      rw [if_pos (by rw [hp.size]; exact hlt)] at e
      simp only [Option.some.injEq] at e e'
      subst e; subst e'; exact hv
    · rw [put_get_ne _ _ hd] at e
      exact hp.tmps t (fun hm => (hD t hm).elim ht hd) u u' e e'
  | p :: ps, β, aR, aI, hs, ha, hv, hp => ⟨hp.1, fun β2 up hle hup => RunP.fewer hD (fun x hx hlt => by
      rw [put_get_ne _ _ (ha p (by simp) x hx)]; exact hs x hx (by rw [put_size] at hlt; exact hlt)) (fun q hq => ha q (by simp [hq])) (hv.mono hle) (hp.2 β2 up hle hup)⟩
theorem RunP.more {D D' : List Tmp} {d : Option Tmp} {v' : Value} (hD : ∀ t, t ∈ D → t ∈ D') (hd : ∀ t, d = some t → t ∈ D') : ∀ {ps : List Item} {β : Beta} {aR aI : Act},
    (∀ p ∈ ps, (∀ x, d = some x → x ∉ p.o.looksAt ops) ∧ ∀ x, d = some x → p.o.dst ≠ some x) → RunP D ops ps β aR aI → RunP D' ops ps β (aR.put d v') aI
  | [], β, aR, aI, _, hp => by
    have hp : ActX D β aI aR := hp
    refine ⟨by rw [put_size]; exact hp.size, fun t ht u u' e e' => ?_, by rw [put_defers']; exact hp.defers⟩
    rw [put_get_ne _ _ (fun hh => ht (hd t hh))] at e'
    exact hp.tmps t (fun hm => ht (hD t hm)) u u' e e'
  | p :: ps, β, aR, aI, ha, hp => by
    obtain ⟨h1, h2⟩ := ha p (by simp)
    refine ⟨hp.1.to_put h1, fun β2 up hle hup => ?_⟩
    rw [Act.put_comm _ _ _ h2]
    exact RunP.more hD hd (fun q hq => ha q (by simp [hq])) (hp.2 β2 up hle hup)
def Val (P : Program) (ops : Array Oper) (σ : World) (it : Item) : Prop :=
  (Region.wanted it.o (yielded ops it.A.tmps) = true ∧ ((reads it.o.op = true ∧ istep P it.A.eval it.o σ = .ret (.value it.v, σ)) ∨ (reads it.o.op = false ∧ ∃ σ0, istep P it.A.eval it.o σ0 = .ret (.value it.v, σ0)))) ∨
  (Region.wanted it.o (yielded ops it.A.tmps) = false ∧ it.v = undef)
structure ItemOK (P : Program) (ops : Array Oper) (done : List Nat) (σ : World) (β : Beta) (aI : Act) (it : Item) : Prop where
  op : ops[it.i]? = some it.o
  still : acts it.o.op = false
  val : Val P ops σ it
  keeps : ∀ t, (∀ j ∈ done.takeWhile (· != it.i), (ops.getD j default).dst ≠ some t) → (it.A.put it.o.dst it.v).tmps[t]? = aI.tmps[t]?
  has : ∃ v', VR β it.v v'
structure AItem where
  j : Nat
  o : Oper
  A : Act
  v : Value
  r : Nat
structure AOK (P : Program) (B : Nat) (w0 : Base) (ops : Array Oper) (done : List Nat) (L : Array Bool) (β : Beta) (aI aR : Act) (x : AItem) : Prop where
  op : ops[x.j]? = some x.o
  late : lateOk ops (waitsFor ops) x.j x.o = true
  fresh : x.j ∉ done
  on : L.getD x.j false = true
  look : ∀ t ∈ x.o.looksAt ops, x.A.tmps[t]? = aI.tmps[t]?
  slot : ∀ d, x.o.dst = some d → d < aR.tmps.size → aR.tmps[d]? = some x.v
  waits : ∀ q, ((waitsFor ops).getD x.j 0).testBit q = true → L.getD q false = true
  res : (Region.wanted x.o (yielded ops x.A.tmps) = false ∧ x.v = undef) ∨
    (Region.wanted x.o (yielded ops x.A.tmps) = true ∧ w0.S x.r ∧ B ≤ x.r ∧ ∃ ob ob' sh, freshObj P x.o.op x.A.eval = some (ob, sh) ∧ (lateFit P x.o.op = true ∧ capBound x.o.op x.A.eval) ∧ x.v = sh x.r ∧ w0.o x.r = some ob' ∧ FRel β ob ob')
def slotsOf (as : List AItem) : List Tmp := as.filterMap (·.o.dst)
structure Inv (P : Program) (B : Nat) (w0 : Base) (ops : Array Oper) (done : List Nat) (L : Array Bool) (ps : List Item) (as : List AItem) (β : Beta) (σ w : World) (aI aR : Act) : Prop where
  rel : R P B w0 β σ w
  size : L.size = ops.size
  item : ∀ it ∈ ps, ItemOK P ops done σ β aI it
  run : RunP (slotsOf as) ops ps β aR aI
  pair : ps.Pairwise fun p q => ((waitsFor ops).getD q.i 0).testBit p.i = true ∨ p.o.apart ops q.o = true
  nodup : (ps.map (·.i)).Nodup
  off : ∀ it ∈ ps, L.getD it.i false = false
  mem : ∀ i, (i ∈ done ∨ ∃ x ∈ as, x.j = i) ↔ (L.getD i false = true ∨ ∃ it ∈ ps, it.i = i)
  down : ∀ i o, L.getD i false = true → ops[i]? = some o → ∀ e ∈ o.after, Region.binds .any e = true → L.getD e.on false = true
  ahead : ∀ x ∈ as, AOK P B w0 ops done L β aI aR x
  once : as.Pairwise fun x y => x.j ≠ y.j ∧ ∀ r, Region.wanted x.o (yielded ops x.A.tmps) = true → Region.wanted y.o (yielded ops y.A.tmps) = true → x.r = r → y.r ≠ r
  apartA : as.Pairwise fun x y => ∀ d, x.o.dst = some d → y.o.dst ≠ some d
structure Step (ops : Array Oper) (i : Nat) (re : List Nat) (rest : Plan) (done acted : List Nat) (o : Oper) : Prop where
  op : ops[i]? = some o
  fresh : i ∉ done
  after : ∀ e ∈ o.after, Region.binds .any e = true → e.on < i ∧ e.on ∈ done
  line : (∀ j ∈ acted, ((waitsFor ops).getD i 0).testBit j = true) ∨ lateOk ops (waitsFor ops) i o = true
  apart : ∀ r ∈ done, ((waitsFor ops).getD i 0).testBit r = true ∨ (ops.getD r default).apart ops o = true
  again : acts o.op = true → ∀ r ∈ done, ((waitsFor ops).getD i 0).testBit r = true ∨ reads (ops.getD r default).op = false ∨
    (r ∈ re ∧ (∀ d, (ops.getD r default).dst = some d → d ∉ (ops.getD r default).looksAt ops) ∧
      ∀ j ∈ i :: done.takeWhile (· != r), ∀ d, (ops.getD j default).dst = some d → (ops.getD r default).dst ≠ some d ∧ d ∉ (ops.getD r default).looksAt ops)
  rest : planOk.go ops (waitsFor ops) rest (i :: done) (if acts o.op then i :: acted else acted) = true
theorem planOk_step {i : Nat} {re : List Nat} {rest : Plan} {done acted : List Nat} (h : planOk.go ops (waitsFor ops) ((i, re) :: rest) done acted = true) :
    ∃ o, Step ops i re rest done acted o := by
  unfold planOk.go at h
  cases ho : ops[i]? with
  | none => rw [ho] at h; cases h
  | some o =>
    rw [ho] at h
    simp only [Bool.and_eq_true] at h
    obtain ⟨⟨⟨⟨⟨h1, h2⟩, h3⟩, h4⟩, h5⟩, h6⟩ := h
    refine ⟨o, ho, by simpa using h1, fun e he hb => ?_, ?_, fun r hr => ?_, fun ha r hr => ?_, h6⟩
    · rw [Array.all_eq_true_iff_forall_mem] at h2
      simpa [hb] using h2 e he
    · simp only [Bool.or_eq_true] at h3
      exact h3.imp (fun h3 j hj => List.all_eq_true.1 h3 j hj) id
    · simpa [Bool.or_eq_true] using List.all_eq_true.1 h4 r hr
    · rw [ha] at h5
      simp only [Bool.not_true, Bool.false_or] at h5
      have := List.all_eq_true.1 h5 r hr
      simp only [Bool.or_eq_true, Bool.and_eq_true, Bool.not_eq_true'] at this
      rcases this with (h | h) | ⟨⟨g1, g2⟩, g3⟩
      · exact .inl h
      · exact .inr (.inl h)
      · refine .inr (.inr ⟨by simpa using g1, fun d hd => by rw [hd] at g2; simpa using g2, fun j hj d hd => ?_⟩)
        have := List.all_eq_true.1 g3 j hj
        rw [hd] at this
        simp only [Option.all_some, Bool.not_eq_true', List.contains_eq_mem, List.mem_append, decide_eq_false_iff_not, not_or] at this
        refine ⟨fun e => this.1 ?_, this.2⟩
        rw [e]; simp
theorem planOk_mem : ∀ {p : Plan} {done acted : List Nat}, planOk.go ops (waitsFor ops) p done acted = true → ∀ j, j < ops.size → j ∉ done → j ∈ p.map (·.1)
  | [], done, acted, h, j, hj, hd => by
    unfold planOk.go at h
    have := List.all_eq_true.1 h j (by simpa using hj)
    simp at this
    exact absurd this hd
  | (i, re) :: p, done, acted, h, j, hj, hd => by
    obtain ⟨o, hs⟩ := planOk_step h
    by_cases e : j = i
    · simp [e]
    · simp only [List.map_cons, List.mem_cons]
      exact .inr (planOk_mem hs.rest j hj (by simp [e, hd]))
theorem planOk_waits : ∀ {p : Plan} {done acted : List Nat}, planOk.go ops (waitsFor ops) p done acted = true → ∀ h ∈ acted, ∀ j ∈ p.map (·.1), ((waitsFor ops).getD j 0).testBit h = true ∨ lateOk ops (waitsFor ops) j (ops.getD j default) = true
  | [], _, _, _, _, _, j, hj => by simp at hj
  | (i, re) :: p, done, acted, hp, h, hh, j, hj => by
    obtain ⟨o, hs⟩ := planOk_step hp
    simp only [List.map_cons, List.mem_cons] at hj
    rcases hj with rfl | hj
    · rcases hs.line with g | g
      · exact .inl (g h hh)
      · refine .inr ?_
        rw [Array.getD_eq_getD_getElem?, hs.op]; exact g
    · exact planOk_waits hs.rest h (by split <;> simp [hh]) j hj
theorem planOk_apart : ∀ {p : Plan} {done acted : List Nat}, planOk.go ops (waitsFor ops) p done acted = true → ∀ h ∈ done, ∀ j ∈ p.map (·.1), ((waitsFor ops).getD j 0).testBit h = true ∨ (ops.getD h default).apart ops (ops.getD j default) = true
  | [], _, _, _, _, _, j, hj => by simp at hj
  | (i, re) :: p, done, acted, hp, h, hh, j, hj => by
    obtain ⟨o, hs⟩ := planOk_step hp
    simp only [List.map_cons, List.mem_cons] at hj
    rcases hj with rfl | hj
    · rcases hs.apart h hh with g | g
      · exact .inl g
      · refine .inr ?_
        rw [Array.getD_eq_getD_getElem? (xs := ops) (i := j), hs.op]; exact g
    · exact planOk_apart hs.rest h (by simp [hh]) j hj
theorem planOk_two : ∀ {p : Plan} {done acted : List Nat}, planOk.go ops (waitsFor ops) p done acted = true → ∀ h ∈ p.map (·.1), ∀ j ∈ p.map (·.1), h ≠ j →
    ((waitsFor ops).getD j 0).testBit h = true ∨ ((waitsFor ops).getD h 0).testBit j = true ∨ (ops.getD h default).apart ops (ops.getD j default) = true ∨ (ops.getD j default).apart ops (ops.getD h default) = true
  | [], _, _, _, _, hh, _, _, _ => by simp at hh
  | (i, re) :: p, done, acted, hp, h, hh, j, hj, hne => by
    obtain ⟨o, hs⟩ := planOk_step hp
    simp only [List.map_cons, List.mem_cons] at hh hj
    rcases hh with rfl | hh <;> rcases hj with rfl | hj
    · exact absurd rfl hne
    · exact (planOk_apart hs.rest h (by simp) j hj).imp id fun g => .inr (.inl g)
    · exact .inr ((planOk_apart hs.rest j (by simp) h hh).imp id .inr)
    · exact planOk_two hs.rest h hh j hj hne
theorem planOk_back : ∀ {p : Plan} {done acted : List Nat}, planOk.go ops (waitsFor ops) p done acted = true → ∀ j ∈ p.map (·.1), ∀ o, ops[j]? = some o → ∀ e ∈ o.after, Region.binds .any e = true → e.on < j
  | [], _, _, _, j, hj => by simp at hj
  | (i, re) :: p, done, acted, hp, j, hj => by
    obtain ⟨o, hs⟩ := planOk_step hp
    simp only [List.map_cons, List.mem_cons] at hj
    rcases hj with rfl | hj
    · intro o' ho' e he hb
      rw [hs.op] at ho'
      simp only [Option.some.injEq] at ho'
      subst ho'
      exact (hs.after e he hb).1
    · exact planOk_back hs.rest j hj
end
end Go.Ideal
namespace Go.Ideal
open Go
section
variable {P : Program} {B : Nat} {w0 : Base} {ops : Array Oper}
theorem getD_set_self {L : Array Bool} {i : Nat} (h : i < L.size) (d : Bool) : (L.setIfInBounds i true).getD i d = true := by
  rw [Array.getD_eq_getD_getElem?, Array.getElem?_setIfInBounds]
  simp [h]
theorem getD_set_mono {L : Array Bool} {i j : Nat} (h : L.getD j false = true) : (L.setIfInBounds i true).getD j false = true := by
  by_cases e : i = j
  · subst e
    refine getD_set_self ?_ _
    rcases Nat.lt_or_ge i L.size with h' | h'
    · exact h'
    · rw [Array.getD_eq_getD_getElem?, Array.getElem?_eq_none h'] at h; cases h
  · rw [getD_set_ne false e]; exact h
theorem getD_set_or {L : Array Bool} {i j : Nat} (h : (L.setIfInBounds i true).getD j false = true) : j = i ∨ L.getD j false = true := by
  by_cases e : i = j
  · exact .inl e.symm
  · rw [getD_set_ne false e] at h; exact .inr h
theorem takeWhile_new {done : List Nat} {i r : Nat} (h : i ≠ r) : (i :: done).takeWhile (· != r) = i :: done.takeWhile (· != r) := by
  rw [List.takeWhile_cons, if_pos (by simpa using h)]
theorem eval_of_slots {a a' : Act} {o : Oper} (h : ∀ t ∈ o.looksAt ops, a.tmps[t]? = a'.tmps[t]?) : ∀ x ∈ o.op.operands, a.eval x = a'.eval x := by
  intro x hx
  cases x with
  | tmp t =>
    have := h t (List.mem_append_left _ (List.mem_filterMap.2 ⟨.tmp t, by simpa using hx, rfl⟩))
    simp only [Act.eval, Array.getD_eq_getD_getElem?, this]
  | _ => rfl
theorem wanted_of_slots {a a' : Act} {o : Oper} (h : ∀ t ∈ o.looksAt ops, a.tmps[t]? = a'.tmps[t]?) : Region.wanted o (yielded ops a.tmps) = Region.wanted o (yielded ops a'.tmps) := by
  unfold Region.wanted
  cases hg : o.guard with
  | none => rfl
  | some gw =>
    obtain ⟨g, want⟩ := gw
    simp only
    unfold yielded
    cases hd : (ops[g]?).bind (·.dst) with
    | none => rfl
    | some d =>
      simp only [Option.bind_some]
      rw [h d (by simp [Oper.looksAt, hg, hd])]
variable {done acted : List Nat} {L : Array Bool} {ps : List Item} {as : List AItem} {β : Beta} {σ w : World} {aI aR : Act}
theorem Inv.hasAll (h : Inv P B w0 ops done L ps as β σ w aI aR) : Has β ps := fun it hi => (h.item it hi).has
theorem lateOk_acts {i : Nat} {o : Oper} (h : lateOk ops (waitsFor ops) i o = true) : lateOp o.op = true ∧ acts o.op = true := by
  simp only [lateOk, Bool.and_eq_true] at h
  have key : ∀ op : Op, lateOp op = true → acts op = true := fun op h => by cases op <;> first | rfl | cases h
  exact ⟨h.1, key _ h.1⟩
theorem Inv.inDone (h : Inv P B w0 ops done L ps as β σ w aI aR) {it : Item} (hi : it ∈ ps) : it.i ∈ done := by
  rcases (h.mem _).2 (.inr ⟨it, hi, rfl⟩) with g | ⟨x, hx, e⟩
  · exact g
  · have ok := h.ahead x hx
    have h1 := ok.on
    rw [e, h.off it hi] at h1
    cases h1
theorem mem_slots {x : AItem} (hx : x ∈ as) {d : Tmp} (hd : x.o.dst = some d) : d ∈ slotsOf as := List.mem_filterMap.2 ⟨x, hx, hd⟩
theorem slots_apart {o : Oper} (h : ∀ x ∈ as, o.apart ops x.o = true) : ∀ t ∈ o.looksAt ops, t ∉ slotsOf as := fun t ht hm => by
  obtain ⟨x, hx, hd⟩ := List.mem_filterMap.1 hm
  exact (Oper.apart_spec (h x hx)).2.2 t hd ht
theorem Inv.push (h : Inv P B w0 ops done L ps as β σ w aI aR) {i : Nat} {re : List Nat} {rest : Plan} {o : Oper} {v : Value} (hs : Step ops i re rest done acted o) (ha : acts o.op = false)
    (hapA : ∀ x ∈ as, o.apart ops x.o = true) (hna : ∀ x ∈ as, x.j ≠ i)
    (hv : Val P ops σ ⟨i, o, aI, v⟩) (hh : ∃ v', VR β v v') : Inv P B w0 ops (i :: done) L (ps ++ [⟨i, o, aI, v⟩]) as β σ w (aI.put o.dst v) aR where
  rel := h.rel
  size := h.size
  item := by
    intro it hi
    rw [List.mem_append, List.mem_singleton] at hi
    rcases hi with hi | rfl
    · have ok := h.item it hi
      have hne : i ≠ it.i := fun e => hs.fresh (e ▸ h.inDone hi)
      refine ⟨ok.op, ok.still, ok.val, fun t ht => ?_, ok.has⟩
      rw [takeWhile_new hne] at ht
      have h0 := ht i (by simp)
      rw [Array.getD_eq_getD_getElem?, hs.op] at h0
      rw [put_get_ne (d := o.dst) aI v h0]
      exact ok.keeps t fun j hj => ht j (by simp [hj])
    · exact ⟨hs.op, ha, hv, fun t _ => rfl, hh⟩
  run := RunP.push (slots_apart hapA) h.run
  pair := by
    rw [List.pairwise_append]
    refine ⟨h.pair, List.pairwise_singleton _ _, fun p hp q hq => ?_⟩
    rw [List.mem_singleton] at hq
    subst hq
    rcases hs.apart p.i (h.inDone hp) with g | g
    · exact .inl g
    · rw [Array.getD_eq_getD_getElem?, (h.item p hp).op] at g
      exact .inr g
  nodup := by
    rw [List.map_append, List.nodup_append]
    refine ⟨h.nodup, by simp, fun a ha b hb => ?_⟩
    simp only [List.map_cons, List.map_nil, List.mem_singleton] at hb
    subst hb
    rintro rfl
    obtain ⟨it, hit, e⟩ := List.mem_map.1 ha
    exact hs.fresh (e ▸ h.inDone hit)
  off := by
    intro it hi
    rw [List.mem_append, List.mem_singleton] at hi
    rcases hi with hi | rfl
    · exact h.off it hi
    · cases hL : L.getD i false with
      | false => rfl
      | true =>
        rcases (h.mem i).2 (.inl hL) with g | ⟨x, hx, e⟩
        · exact absurd g hs.fresh
        · exact absurd e (hna x hx)
  mem := by
    intro k
    rw [List.mem_cons]
    constructor
    · rintro ((rfl | hk) | hk)
      · exact .inr ⟨_, List.mem_append_right _ (List.mem_singleton.2 rfl), rfl⟩
      · exact ((h.mem k).1 (.inl hk)).imp id fun ⟨it, hi, e⟩ => ⟨it, List.mem_append_left _ hi, e⟩
      · exact ((h.mem k).1 (.inr hk)).imp id fun ⟨it, hi, e⟩ => ⟨it, List.mem_append_left _ hi, e⟩
    · rintro (hk | ⟨it, hi, e⟩)
      · exact ((h.mem k).2 (.inl hk)).imp .inr id
      · rw [List.mem_append, List.mem_singleton] at hi
        rcases hi with hi | rfl
        · exact ((h.mem k).2 (.inr ⟨it, hi, e⟩)).imp .inr id
        · exact .inl (.inl e.symm)
  down := h.down
  ahead := fun x hx => by
    have ok := h.ahead x hx
    obtain ⟨h1, h2, h3⟩ := Oper.apart_spec (hapA x hx)
    exact ⟨ok.op, ok.late, by simpa using ⟨hna x hx, ok.fresh⟩, ok.on, fun t ht => by rw [put_get_ne _ _ (fun e => h1 t e ht)]; exact ok.look t ht, ok.slot, ok.waits, ok.res⟩
  once := h.once
  apartA := h.apartA
theorem Inv.take {ps1 ps2 : List Item} {it : Item} (h : Inv P B w0 ops done L (ps1 ++ it :: ps2) as β σ w aI aR) {v' : Value}
    (hapA : ∀ x ∈ as, it.o.apart ops x.o = true)
    (hw : ∀ e ∈ it.o.after, Region.binds .any e = true → L.getD e.on false = true) (hrun : RunP (slotsOf as) ops (ps1 ++ ps2) β (aR.put it.o.dst v') aI) :
    Inv P B w0 ops done (L.setIfInBounds it.i true) (ps1 ++ ps2) as β σ w aI (aR.put it.o.dst v') := by
  have hsub : ∀ x ∈ ps1 ++ ps2, x ∈ ps1 ++ it :: ps2 := fun x hx => by
    rw [List.mem_append] at hx ⊢
    exact hx.imp id (List.mem_cons_of_mem _)
  have hsl : (ps1 ++ ps2).Sublist (ps1 ++ it :: ps2) := List.Sublist.append_left (List.sublist_cons_self _ _) _
  have hit : it ∈ ps1 ++ it :: ps2 := by simp
  have hlt : it.i < L.size := by rw [h.size]; exact (Array.getElem?_eq_some_iff.1 (h.item it hit).op).1
  have hnd : ∀ x ∈ ps1 ++ ps2, x.i ≠ it.i := by
    have h0 := h.nodup
    rw [List.map_append, List.map_cons, List.nodup_append] at h0
    obtain ⟨_, h2, h3⟩ := h0
    rw [List.nodup_cons] at h2
    intro x hx e
    rw [List.mem_append] at hx
    rcases hx with hx | hx
    · exact h3 x.i (List.mem_map.2 ⟨x, hx, rfl⟩) it.i (by simp) e
    · exact h2.1 (e ▸ List.mem_map.2 ⟨x, hx, rfl⟩)
  refine ⟨h.rel, by simp [h.size], fun x hx => h.item x (hsub x hx), hrun, h.pair.sublist hsl, h.nodup.sublist (hsl.map _), fun x hx => ?_, fun k => ?_, fun k o hk ho e he hb => ?_, fun x hx => ?_, h.once, h.apartA⟩
  · rw [getD_set_ne false (fun e => hnd x hx e.symm)]
    exact h.off x (hsub x hx)
  · rw [h.mem k]
    constructor
    · rintro (hk | ⟨x, hx, e⟩)
      · exact .inl (getD_set_mono hk)
      · by_cases hki : x = it
        · subst hki; subst e; exact .inl (getD_set_self hlt _)
        · refine .inr ⟨x, ?_, e⟩
          rw [List.mem_append, List.mem_cons] at hx
          rw [List.mem_append]
          rcases hx with hx | hx | hx
          · exact .inl hx
          · exact absurd hx hki
          · exact .inr hx
    · rintro (hk | ⟨x, hx, e⟩)
      · rcases getD_set_or hk with rfl | hk
        · exact .inr ⟨it, hit, rfl⟩
        · exact .inl hk
      · exact .inr ⟨x, hsub x hx, e⟩
  · rcases getD_set_or hk with rfl | hk
    · rw [(h.item it hit).op] at ho
      simp only [Option.some.injEq] at ho
      subst ho
      exact getD_set_mono (hw e he hb)
    · exact getD_set_mono (h.down k o hk ho e he hb)
  · have ok := h.ahead x hx
    obtain ⟨h1, h2, h3⟩ := Oper.apart_spec (hapA x hx)
    exact ⟨ok.op, ok.late, ok.fresh, getD_set_mono ok.on, ok.look, fun d hd hlt => by rw [put_get_ne _ _ (fun e => h2 d e hd)]; exact ok.slot d hd (by rw [put_size] at hlt; exact hlt), fun q hq => getD_set_mono (ok.waits q hq), ok.res⟩
theorem Inv.items (h : Inv P B w0 ops done L ps as β σ w aI aR) {i : Nat} {re : List Nat} {rest : Plan} {o : Oper} {v : Value} {D : List Tmp} {aR' : Act} {w1 : Base} {β2 : Beta} {σ' w' : World} (hs : Step ops i re rest done acted o) (ha : acts o.op = true)
    (hap : ∀ p ∈ ps, ((waitsFor ops).getD i 0).testBit p.i = false) (hle : β.le β2) (hR : R P B w1 β2 σ' w') (hrun : RunP D ops ps β2 aR' (aI.put o.dst v)) (hD : ∀ it ∈ ps, ∀ t ∈ it.o.looksAt ops, t ∉ D)
    (hre : recheck P ops (aI.put o.dst v) σ' re = true) : ∀ it ∈ ps, ItemOK P ops (i :: done) σ' β2 (aI.put o.dst v) it := by
  have hne : ∀ p ∈ ps, i ≠ p.i := fun p hp e => hs.fresh (e ▸ h.inDone hp)
  have hkeeps : ∀ it ∈ ps, ∀ t, (∀ j ∈ (i :: done).takeWhile (· != it.i), (ops.getD j default).dst ≠ some t) → (it.A.put it.o.dst it.v).tmps[t]? = (aI.put o.dst v).tmps[t]? := by
    intro it hi t ht
    rw [takeWhile_new (hne it hi)] at ht
    have h0 := ht i (by simp)
    rw [Array.getD_eq_getD_getElem?, hs.op] at h0
    rw [put_get_ne (d := o.dst) aI v h0]
    exact (h.item it hi).keeps t fun j hj => ht j (by simp [hj])
  intro it hi
  have ok := h.item it hi
  refine ⟨ok.op, ok.still, ?_, hkeeps it hi, let ⟨v', hv⟩ := ok.has; ⟨v', hv.mono hle⟩⟩
  rcases ok.val with ⟨hwt, ⟨hrd, hst⟩ | hpure⟩ | hnot
  · have hop : ops.getD it.i default = it.o := by rw [Array.getD_eq_getD_getElem?, ok.op]; rfl
    rcases hs.again ha it.i (h.inDone hi) with g | g | ⟨g1, g2, g3⟩
    · rw [hap it hi] at g; cases g
    · rw [hop, hrd] at g; cases g
    · rw [hop] at g2 g3
      rw [← takeWhile_new (hne it hi)] at g3
      have hlook : ∀ t ∈ it.o.looksAt ops, (aI.put o.dst v).tmps[t]? = it.A.tmps[t]? := fun t ht => by
        rw [← hkeeps it hi t (fun j hj e => (g3 j hj t e).2 ht)]
        exact put_get_ne _ _ (fun e => g2 t e ht)
      have hdst : ∀ d, it.o.dst = some d → (it.A.put it.o.dst it.v).tmps[d]? = (aI.put o.dst v).tmps[d]? := fun d hd =>
        hkeeps it hi d (fun j hj e => (g3 j hj d e).1 hd)
      have hw2 : Region.wanted it.o (yielded ops (aI.put o.dst v).tmps) = true := by rw [wanted_of_slots hlook]; exact hwt
      have hone := List.all_eq_true.1 hre it.i g1
      simp only [ok.op, hw2, Bool.not_true, Bool.false_or] at hone
      have hev := istep_congr (P := P) (eval_of_slots hlook) σ'
      rw [hev] at hone
      refine .inl ⟨hwt, .inl ⟨hrd, ?_⟩⟩
      cases hi2 : istep P it.A.eval it.o σ' with
      | bad => rw [hi2] at hone; cases hone
      | pick n k => rw [hi2] at hone; cases hone
      | ret p =>
        obtain ⟨nx, σ2⟩ := p
        rw [hi2] at hone
        cases nx with
        | value u =>
          simp only at hone
          cases hd : it.o.dst with
          | none => rw [hd] at hone; cases hone
          | some d =>
            rw [hd] at hone
            simp only at hone
            have hdd := hdst d hd
            rw [← hdd, hd] at hone
            simp only [Act.put] at hone
            rw [Array.getElem?_setIfInBounds] at hone
            simp only [if_true] at hone
            split at hone
            · rename_i hu
              split at hu
              · simp only [Option.some.injEq] at hu
                subst hu
                have hu := veq_eq 4 _ _ hone
                obtain ⟨aV, hV⟩ := RunP.virtual (h.hasAll.mono hle) hrun
                have hsl : Slots β2 (it.o.looksAt ops) it.A aV := ⟨by
                    have h1 := RunP.size (h.hasAll.mono hle) hrun
                    rw [h1.2 it hi, ← h1.1, hV.size], fun t ht x x' e e' => hV.tmps t (hD it hi t ht) x x' (by rw [hlook t ht]; exact e) e'⟩
                obtain ⟨u1, u2, q1, _, _⟩ := read_istep hsl.rho hrd hR (Q := fun p => p = (.value u, σ2)) (by rw [hi2]; rfl)
                simp only [Prod.mk.injEq, Next.value.injEq] at q1
                rw [← q1.2, ← hu]
              · cases hu
            · cases hone
        | _ => cases hone
  · exact .inl ⟨hwt, .inr hpure⟩
  · exact .inr hnot
theorem Inv.act (h : Inv P B w0 ops done L ps as β σ w aI aR) {i : Nat} {re : List Nat} {rest : Plan} {o : Oper} {v v' : Value} {β2 : Beta} {σ' w' : World} (hs : Step ops i re rest done acted o) (ha : acts o.op = true)
    (hapA : ∀ x ∈ as, o.apart ops x.o = true) (hna : ∀ x ∈ as, x.j ≠ i) (hapP : ∀ p ∈ ps, ∀ x ∈ as, p.o.apart ops x.o = true)
    (hw : ∀ e ∈ o.after, Region.binds .any e = true → L.getD e.on false = true) (hap : ∀ p ∈ ps, ((waitsFor ops).getD i 0).testBit p.i = false) (hle : β.le β2) (hR : R P B w0 β2 σ' w') (hv : VR β2 v v')
    (hre : recheck P ops (aI.put o.dst v) σ' re = true) : Inv P B w0 ops (i :: done) (L.setIfInBounds i true) ps as β2 σ' w' (aI.put o.dst v) (aR.put o.dst v') := by
  have hlt : i < L.size := by rw [h.size]; exact (Array.getElem?_eq_some_iff.1 hs.op).1
  have hne : ∀ p ∈ ps, i ≠ p.i := fun p hp e => hs.fresh (e ▸ h.inDone hp)
  have hapart : ∀ p ∈ ps, p.o.apart ops o = true := fun p hp => by
    rcases hs.apart p.i (h.inDone hp) with g | g
    · rw [hap p hp] at g; cases g
    · rw [Array.getD_eq_getD_getElem?, (h.item p hp).op] at g; exact g
  have hrun : RunP (slotsOf as) ops ps β2 (aR.put o.dst v') (aI.put o.dst v) := RunP.act (fun p hp => by
    obtain ⟨h1, h2, h3⟩ := Oper.apart_spec (hapart p hp)
    exact ⟨h3, fun x hx hx' => h2 x hx' hx⟩) hv (h.run.mono hle)
  refine ⟨hR, by simp [h.size], h.items hs ha hap hle hR hrun (fun it hi => slots_apart (hapP it hi)) hre, hrun, h.pair, h.nodup, fun it hi => ?_, fun k => ?_, fun k o' hk ho e he hb => ?_, fun x hx => ?_, h.once, h.apartA⟩
  · rw [getD_set_ne false (hne it hi)]; exact h.off it hi
  · rw [List.mem_cons]
    constructor
    · rintro ((rfl | hk) | hk)
      · exact .inl (getD_set_self hlt _)
      · exact ((h.mem k).1 (.inl hk)).imp getD_set_mono id
      · exact ((h.mem k).1 (.inr hk)).imp getD_set_mono id
    · rintro (hk | hk)
      · rcases getD_set_or hk with rfl | hk
        · exact .inl (.inl rfl)
        · exact ((h.mem k).2 (.inl hk)).imp .inr id
      · exact ((h.mem k).2 (.inr hk)).imp .inr id
  · rcases getD_set_or hk with rfl | hk
    · rw [hs.op] at ho
      simp only [Option.some.injEq] at ho
      subst ho
      exact getD_set_mono (hw e he hb)
    · exact getD_set_mono (h.down k o' hk ho e he hb)
  · have ok := h.ahead x hx
    obtain ⟨h1, h2, h3⟩ := Oper.apart_spec (hapA x hx)
    exact ⟨ok.op, ok.late, by simpa using ⟨hna x hx, ok.fresh⟩, getD_set_mono ok.on, fun t ht => by rw [put_get_ne _ _ (fun e => h1 t e ht)]; exact ok.look t ht,
      fun d hd hlt => by rw [put_get_ne _ _ (fun e => h2 d e hd)]; exact ok.slot d hd (by rw [put_size] at hlt; exact hlt), fun q hq => getD_set_mono (ok.waits q hq),
      ok.res.imp id fun ⟨r1, r2, r3, ob, ob', sh, r4, r5, r6, r7, r8⟩ => ⟨r1, r2, r3, ob, ob', sh, r4, r5, r6, r7, r8.mono hle⟩⟩
theorem Inv.late {as1 as2 : List AItem} {x : AItem} (h : Inv P B w0 ops done L ps (as1 ++ x :: as2) β σ w aI aR) {re : List Nat} {rest : Plan} {v : Value} {w1 : Base} {β2 : Beta} {σ' : World} (hs : Step ops x.j re rest done acted x.o)
    (hapP : ∀ p ∈ ps, ∀ y ∈ as1 ++ x :: as2, p.o.apart ops y.o = true) (hap2 : ∀ y ∈ as1 ++ as2, ∀ d, x.o.dst = some d → d ∉ y.o.looksAt ops)
    (hb : ∀ y ∈ as1 ++ as2, Region.wanted y.o (yielded ops y.A.tmps) = true → w1.S y.r ∧ w1.o y.r = w0.o y.r)
    (hle : β.le β2) (hR : R P B w1 β2 σ' w) (hv : VR β2 v x.v)
    (hre : recheck P ops (aI.put x.o.dst v) σ' re = true) : Inv P B w1 ops (x.j :: done) L ps (as1 ++ as2) β2 σ' w (aI.put x.o.dst v) aR := by
  have hx : x ∈ as1 ++ x :: as2 := by simp
  have okx := h.ahead x hx
  have hsub : ∀ y ∈ as1 ++ as2, y ∈ as1 ++ x :: as2 := fun y hy => by
    rw [List.mem_append] at hy ⊢
    exact hy.imp id (List.mem_cons_of_mem _)
  have hsl : (as1 ++ as2).Sublist (as1 ++ x :: as2) := List.Sublist.append_left (List.sublist_cons_self _ _) _
  have hnj : ∀ y ∈ as1 ++ as2, y.j ≠ x.j := fun y hy => by
    have := h.once
    rw [List.pairwise_append] at this
    rw [List.mem_append] at hy
    rcases hy with hy | hy
    · exact (this.2.2 y hy x (by simp)).1
    · have h2 := this.2.1
      rw [List.pairwise_cons] at h2
      exact fun e => (h2.1 y hy).1 e.symm
  have hnd : ∀ y ∈ as1 ++ as2, ∀ d, x.o.dst = some d → y.o.dst ≠ some d := fun y hy d hd => by
    have := h.apartA
    rw [List.pairwise_append] at this
    rw [List.mem_append] at hy
    rcases hy with hy | hy
    · exact fun e => this.2.2 y hy x (by simp) d e hd
    · have h2 := this.2.1
      rw [List.pairwise_cons] at h2
      exact h2.1 y hy d hd
  have hap : ∀ p ∈ ps, ((waitsFor ops).getD x.j 0).testBit p.i = false := fun p hp => by
    cases hb : ((waitsFor ops).getD x.j 0).testBit p.i with
    | false => rfl
    | true =>
      have := okx.waits _ hb
      rw [h.off p hp] at this
      cases this
  have hrun : RunP (slotsOf (as1 ++ as2)) ops ps β2 aR (aI.put x.o.dst v) := RunP.fewer (D := slotsOf (as1 ++ x :: as2)) (v' := x.v) (fun t ht => by
      obtain ⟨y, hy, hd⟩ := List.mem_filterMap.1 ht
      rw [List.mem_append, List.mem_cons] at hy
      rcases hy with hy | rfl | hy
      · exact .inl (mem_slots (List.mem_append_left _ hy) hd)
      · exact .inr hd
      · exact .inl (mem_slots (List.mem_append_right _ hy) hd)) okx.slot (fun p hp d hd hd' => (Oper.apart_spec (hapP p hp x hx)).2.1 d hd' hd) hv (h.run.mono hle)
  refine ⟨hR, h.size, h.items hs (lateOk_acts okx.late).2 hap hle hR hrun (fun it hi => slots_apart fun y hy => hapP it hi y (hsub y hy)) hre, hrun, h.pair, h.nodup, h.off, fun k => ?_, h.down, fun y hy => ?_, h.once.sublist hsl, h.apartA.sublist hsl⟩
  · rw [← h.mem k, List.mem_cons]
    constructor
    · rintro ((rfl | hk) | ⟨y, hy, e⟩)
      · exact .inr ⟨x, hx, rfl⟩
      · exact .inl hk
      · exact .inr ⟨y, hsub y hy, e⟩
    · rintro (hk | ⟨y, hy, e⟩)
      · exact .inl (.inr hk)
      · rw [List.mem_append, List.mem_cons] at hy
        rcases hy with hy | rfl | hy
        · exact .inr ⟨y, List.mem_append_left _ hy, e⟩
        · exact .inl (.inl e.symm)
        · exact .inr ⟨y, List.mem_append_right _ hy, e⟩
  · have ok := h.ahead y (hsub y hy)
    refine ⟨ok.op, ok.late, by simpa using ⟨hnj y hy, ok.fresh⟩, ok.on, fun t ht => by rw [put_get_ne _ _ (fun e => hap2 y hy t e ht)]; exact ok.look t ht, ok.slot, ok.waits, ?_⟩
    rcases ok.res with r | ⟨r1, r2, r3, ob, ob', sh, r4, r5, r6, r7, r8⟩
    · exact .inl r
    · obtain ⟨q1, q2⟩ := hb y hy r1
      exact .inr ⟨r1, q1, r3, ob, ob', sh, r4, r5, r6, by rw [q2]; exact r7, r8.mono hle⟩
theorem Inv.early (h : Inv P B w0 ops done L ps as β σ w aI aR) {x : AItem} {w1 : Base} {w' : World} (hop : ops[x.j]? = some x.o) (hlate : lateOk ops (waitsFor ops) x.j x.o = true) (hfresh : x.j ∉ done) (hoff : L.getD x.j false = false) (hnp : ∀ p ∈ ps, p.i ≠ x.j)
    (hA : x.A = aI) (hapP : ∀ p ∈ ps, p.o.apart ops x.o = true) (hapA : ∀ y ∈ as, ∀ d, y.o.dst = some d → x.o.dst ≠ some d) (hwaits : ∀ q, ((waitsFor ops).getD x.j 0).testBit q = true → L.getD q false = true)
    (hw : ∀ e ∈ x.o.after, Region.binds .any e = true → L.getD e.on false = true)
    (hb : ∀ y ∈ as, Region.wanted y.o (yielded ops y.A.tmps) = true → w1.S y.r ∧ w1.o y.r = w0.o y.r) (hr : ∀ y ∈ as, Region.wanted y.o (yielded ops y.A.tmps) = true → Region.wanted x.o (yielded ops x.A.tmps) = true → y.r ≠ x.r)
    (hres : (Region.wanted x.o (yielded ops x.A.tmps) = false ∧ x.v = undef) ∨
      (Region.wanted x.o (yielded ops x.A.tmps) = true ∧ w1.S x.r ∧ B ≤ x.r ∧ ∃ ob ob' sh, freshObj P x.o.op x.A.eval = some (ob, sh) ∧ (lateFit P x.o.op = true ∧ capBound x.o.op x.A.eval) ∧ x.v = sh x.r ∧ w1.o x.r = some ob' ∧ FRel β ob ob'))
    (hR : R P B w1 β σ w') : Inv P B w1 ops done (L.setIfInBounds x.j true) ps (as ++ [x]) β σ w' aI (aR.put x.o.dst x.v) := by
  have hlt : x.j < L.size := by rw [h.size]; exact (Array.getElem?_eq_some_iff.1 hop).1
  have hne : ∀ y ∈ as, y.j ≠ x.j := fun y hy e => by
    have := (h.ahead y hy).on
    rw [e, hoff] at this
    cases this
  have hrun : RunP (slotsOf (as ++ [x])) ops ps β (aR.put x.o.dst x.v) aI := RunP.more (D := slotsOf as) (fun t ht => by
      obtain ⟨y, hy, hd⟩ := List.mem_filterMap.1 ht
      exact mem_slots (List.mem_append_left _ hy) hd) (fun t ht => mem_slots (List.mem_append_right _ (by simp)) ht) (fun p hp => by
      obtain ⟨h1, h2, h3⟩ := Oper.apart_spec (hapP p hp)
      exact ⟨h3, fun d hd hd' => h2 d hd' hd⟩) h.run
  refine ⟨hR, by simp [h.size], h.item, hrun, h.pair, h.nodup, fun it hi => ?_, fun k => ?_, fun k o' hk ho e he hbn => ?_, fun y hy => ?_, ?_, ?_⟩
  · rw [getD_set_ne false (fun e => hnp it hi e.symm)]; exact h.off it hi
  · constructor
    · rintro (hk | ⟨y, hy, e⟩)
      · exact ((h.mem k).1 (.inl hk)).imp getD_set_mono id
      · rw [List.mem_append, List.mem_singleton] at hy
        rcases hy with hy | rfl
        · exact ((h.mem k).1 (.inr ⟨y, hy, e⟩)).imp getD_set_mono id
        · subst e; exact .inl (getD_set_self hlt _)
    · rintro (hk | hk)
      · rcases getD_set_or hk with rfl | hk
        · exact .inr ⟨x, by simp, rfl⟩
        · exact ((h.mem k).2 (.inl hk)).imp id fun ⟨y, hy, e⟩ => ⟨y, List.mem_append_left _ hy, e⟩
      · exact ((h.mem k).2 (.inr hk)).imp id fun ⟨y, hy, e⟩ => ⟨y, List.mem_append_left _ hy, e⟩
  · rcases getD_set_or hk with rfl | hk
    · rw [hop] at ho
      simp only [Option.some.injEq] at ho
      subst ho
      exact getD_set_mono (hw e he hbn)
    · exact getD_set_mono (h.down k o' hk ho e he hbn)
  · rw [List.mem_append, List.mem_singleton] at hy
    rcases hy with hy | rfl
    · have ok := h.ahead y hy
      refine ⟨ok.op, ok.late, ok.fresh, getD_set_mono ok.on, ok.look, fun d hd hlt => by rw [put_get_ne _ _ (hapA y hy d hd)]; exact ok.slot d hd (by rw [put_size] at hlt; exact hlt), fun q hq => getD_set_mono (ok.waits q hq), ?_⟩
      rcases ok.res with r | ⟨r1, r2, r3, ob, ob', sh, r4, r5, r6, r7, r8⟩
      · exact .inl r
      · obtain ⟨q1, q2⟩ := hb y hy r1
        exact .inr ⟨r1, q1, r3, ob, ob', sh, r4, r5, r6, by rw [q2]; exact r7, r8⟩
    · refine ⟨hop, hlate, hfresh, getD_set_self hlt _, fun t _ => by rw [hA], fun d hd hlt => ?_, fun q hq => getD_set_mono (hwaits q hq), hres⟩
      rw [hd] at hlt ⊢
      simp only [Act.put, Array.size_setIfInBounds] at hlt
      simp [Act.put, hlt]
  · rw [List.pairwise_append]
    refine ⟨h.once, List.pairwise_singleton _ _, fun y hy z hz => ?_⟩
    rw [List.mem_singleton] at hz
    subst hz
    exact ⟨hne y hy, fun r w1 w2 e e' => hr y hy w1 w2 (e.trans e'.symm)⟩
  · rw [List.pairwise_append]
    refine ⟨h.apartA, List.pairwise_singleton _ _, fun y hy z hz => ?_⟩
    rw [List.mem_singleton] at hz
    subst hz
    exact hapA y hy
end
end Go.Ideal
namespace Go.Ideal
open Go
section
variable {P : Program} {B : Nat} {w0 : Base} {ops : Array Oper}
def BackO (ops : Array Oper) : Prop := ∀ i o, ops[i]? = some o → ∀ e ∈ o.after, Region.binds .any e = true → e.on < i
theorem all_listed (hback : BackO ops) {L : Array Bool} (hsz : L.size = ops.size) (hr : Region.ready .any ops L = []) : ∀ (k i : Nat), i ≤ k → i < ops.size → L.getD i false = true := by
  intro k
  induction k with
  | zero =>
    intro i hi hlt
    cases hL : L.getD i false with
    | true => rfl
    | false =>
      have : i ∈ Region.ready .any ops L := mem_ready.2 ⟨by rw [Array.getD_eq_getD_getElem?] at hL ⊢; rw [Array.getElem?_eq_getElem (by omega)] at hL ⊢; exact hL, ops[i], by simp [hlt], fun e he hb => by
        have := hback i ops[i] (by simp [hlt]) e he hb; omega⟩
      rw [hr] at this; cases this
  | succ k ih =>
    intro i hi hlt
    cases hL : L.getD i false with
    | true => rfl
    | false =>
      have : i ∈ Region.ready .any ops L := mem_ready.2 ⟨by rw [Array.getD_eq_getD_getElem?] at hL ⊢; rw [Array.getElem?_eq_getElem (by omega)] at hL ⊢; exact hL, ops[i], by simp [hlt], fun e he hb => by
        have := hback i ops[i] (by simp [hlt]) e he hb
        exact ih e.on (by omega) (by omega)⟩
      rw [hr] at this; cases this
variable {K : Kont} {ro : Option Nat} {n : Nat} {Q : Act × World → Prop} {Qx : Exit → Act → World → Prop} {β0 : Beta}
def unl (L : Array Bool) : Nat := (List.range L.size).countP fun i => !L.getD i false
theorem unl_zero {L : Array Bool} (h : unl L = 0) : ∀ i, i < L.size → L.getD i false = true := fun i hi => by
  have := List.countP_eq_zero.1 h i (by simpa using hi)
  simpa using this
theorem count_off {p p' : Nat → Bool} {j : Nat} (hj : p j = true) (hj' : p' j = false) (hne : ∀ i, i ≠ j → p' i = p i) : ∀ (l : List Nat), l.Nodup → j ∈ l → l.countP p' + 1 = l.countP p
  | [], _, h => by cases h
  | a :: l, hn, h => by
    rw [List.nodup_cons] at hn
    by_cases e : a = j
    · subst e
      have hc : l.countP p' = l.countP p := List.countP_congr fun x hx => by rw [hne x (fun e => hn.1 (e ▸ hx))]
      simp only [List.countP_cons, hj, hj', hc, if_true, Bool.false_eq_true, if_false]
    · have hm : j ∈ l := by
        rcases List.mem_cons.1 h with e2 | e2
        · exact absurd e2.symm e
        · exact e2
      have ih := count_off hj hj' hne l hn.2 hm
      simp only [List.countP_cons, hne a e]
      omega
theorem unl_set {L : Array Bool} {j : Nat} (hj : j < L.size) (h : L.getD j false = false) : unl (L.setIfInBounds j true) + 1 = unl L := by
  unfold unl
  rw [Array.size_setIfInBounds]
  refine count_off (j := j) (p := fun i => !L.getD i false) (p' := fun i => !(L.setIfInBounds j true).getD i false) ?_ ?_ (fun i hi => ?_) _ List.nodup_range (by simpa using hj)
  · simp only [h, Bool.not_false]
  · simp only [getD_set_self hj, Bool.not_true]
  · rw [getD_set_ne false (fun e => hi e.symm)]
def Base.le (w0 w1 : Base) : Prop := w1.w = w0.w ∧ ∀ k, w0.S k → w1.S k ∧ w1.o k = w0.o k
theorem Base.le.refl (w0 : Base) : Base.le w0 w0 := ⟨rfl, fun _ h => ⟨h, rfl⟩⟩
theorem R.weaken {w1 : Base} {β : Beta} {σ w : World} (hb : Base.le w0 w1) (h : R P B w1 β σ w) : R P B w0 β σ w where
  below := by rw [← hb.1]; exact h.below
  held := fun k hk => by obtain ⟨a, b⟩ := hb.2 k hk; rw [← b]; exact h.held k a
  size := h.size
  dom := h.dom
  cov := h.cov
  obj := h.obj
  dd := h.dd
  esz := h.esz
  new := h.new
  free := fun b o bi h1 h2 h3 hs => h.free b o bi h1 h2 h3 (hb.2 _ hs).1
  inj := h.inj
def Goal (P : Program) (B : Nat) (w00 : Base) (ops : Array Oper) (K : Kont) (ro : Option Nat) (n : Nat) (Q : Act × World → Prop) (Qx : Exit → Act → World → Prop) (β0 : Beta) (fuel : Nat) : Prop :=
  ∀ (rest : Plan) (done acted : List Nat) (L : Array Bool) (ps : List Item) (as : List AItem) (w0 : Base) (β : Beta) (σ w : World) (aI aR : Act), fuel = unl L → planOk.go ops (waitsFor ops) rest done acted = true →
    Inv P B w0 ops done L ps as β σ w aI aR → Base.le w00 w0 → (∀ x ∈ as, Region.wanted x.o (yielded ops x.A.tmps) = true → ¬ w00.S x.r) → β0.le β → (iplan P K ops rest aI σ).all Q → wpAnyIn (FF ro) n P .any ops Qx fuel L aR w
theorem recheck_then {re : List Nat} {rest : Plan} {a : Act} {σ : World} (h : (if recheck P ops a σ re = true then iplan P K ops rest a σ else .bad).all Q) : recheck P ops a σ re = true ∧ (iplan P K ops rest a σ).all Q := by
  split at h
  · exact ⟨‹_›, h⟩
  · exact h.elim
theorem T.leaf {α : Type} {t : T α} {q : α → Prop} (h : t.all q) : ∃ a, q a := by
  induction t with
  | ret a => exact ⟨a, h⟩
  | bad => exact h.elim
  | pick n k ih => exact ih 0 (h.2 0 h.1)
theorem fresh_congr {op : Op} {ρ ρ' : Operand → Value} (h : ∀ x ∈ op.operands, ρ x = ρ' x) : freshObj P op ρ = freshObj P op ρ' := by
  unfold freshObj
  split
  · rfl
  · rename_i t len parts
    have : (parts.map fun (j, x) => (j, ρ x)) = parts.map fun (j, x) => (j, ρ' x) := by
      apply Array.map_congr_left
      intro p hp
      obtain ⟨j, x⟩ := p
      simp only
      rw [h x (by simp [Op.operands]; exact ⟨j, by simpa using hp⟩)]
    rw [this]
  · rename_i t l c
    rw [h l (by simp [Op.operands]), h c (by simp [Op.operands])]
  · rfl
  · rfl
theorem capBound_congr {op : Op} {ρ ρ' : Operand → Value} (h : ∀ x ∈ op.operands, ρ x = ρ' x) : capBound op ρ ↔ capBound op ρ' := by
  cases op with
  | makeSlice t l c => simp only [capBound]; rw [h c (by simp [Op.operands])]
  | _ => exact Iff.rfl
theorem will_lay {j : Nat} {o : Oper} (ho : ops[j]? = some o) (hl : lateOp o.op = true) : ∀ {rest : Plan} {done acted : List Nat} {aI : Act} {σ : World}, planOk.go ops (waitsFor ops) rest done acted = true → j ∈ rest.map (·.1) →
    (∀ k ∈ rest.map (·.1), ((waitsFor ops).getD j 0).testBit k = false) → (iplan P K ops rest aI σ).all Q → Region.wanted o (yielded ops aI.tmps) = true →
    ∃ x sh, freshObj P o.op aI.eval = some (x, sh) ∧ (lateFit P o.op = true ∧ capBound o.op aI.eval) ∧ o.op.operands.all constFit = true
  | [], _, _, _, _, _, hj, _, _, _ => by simp at hj
  | (i, re) :: rest, done, acted, aI, σ, hp, hj, hnw, hQ, hw => by
    obtain ⟨oi, hs⟩ := planOk_step hp
    have hQ := T.all_bind.1 hQ
    unfold iopAt at hQ
    rw [hs.op] at hQ
    simp only at hQ
    by_cases hij : i = j
    · subst hij
      have : oi = o := by have := hs.op; rw [ho] at this; exact (Option.some.inj this).symm
      subst this
      rw [if_pos hw] at hQ
      have hq := T.all_bind.1 (T.all_bind.1 hQ)
      obtain ⟨x, sh, h1, _, h3, h4⟩ := fresh_of hl hq
      exact ⟨x, sh, h1, ⟨h3, h4⟩, istep_consts hq⟩
    · have hjr : j ∈ rest.map (·.1) := by
        simp only [List.map_cons, List.mem_cons] at hj
        rcases hj with e | e
        · exact absurd e.symm hij
        · exact e
      have hap : (ops.getD i default).apart ops o = true := by
        rcases planOk_apart hs.rest i (by simp) j hjr with g | g
        · rw [hnw i (by simp)] at g; cases g
        · rw [Array.getD_eq_getD_getElem? (xs := ops) (i := j), ho] at g; exact g
      rw [Array.getD_eq_getD_getElem?, hs.op] at hap
      have hlook : ∀ (v : Value), ∀ t ∈ o.looksAt ops, (aI.put oi.dst v).tmps[t]? = aI.tmps[t]? := fun v t ht => put_get_ne _ _ (fun e => (Oper.apart_spec hap).1 t e ht)
      have next : ∃ v σ', (iplan P K ops rest (aI.put oi.dst v) σ').all Q := by
        split at hQ
        · obtain ⟨⟨v, σ'⟩, hv⟩ := T.leaf (T.all_bind.1 hQ)
          exact ⟨v, σ', (recheck_then hv).2⟩
        · exact ⟨undef, σ, (recheck_then hQ).2⟩
      obtain ⟨v, σ', hQ'⟩ := next
      obtain ⟨x, sh, h1, ⟨h2, h3⟩, h4⟩ := will_lay ho hl hs.rest hjr (fun k hk => hnw k (by simp at hk ⊢; exact .inr hk)) hQ' (by rw [wanted_of_slots (hlook v)]; exact hw)
      have hev := fun x hx => (eval_of_slots (hlook v) x hx)
      exact ⟨x, sh, by rw [← h1]; exact fresh_congr fun x hx => (hev x hx).symm, ⟨h2, (capBound_congr hev).1 h3⟩, h4⟩
theorem Inv.far {done acted : List Nat} {L : Array Bool} {ps : List Item} {as : List AItem} {β : Beta} {σ w : World} {aI aR : Act} {rest : Plan} (h : Inv P B w0 ops done L ps as β σ w aI aR) (hp : planOk.go ops (waitsFor ops) rest done acted = true) :
    (∀ x ∈ as, x.j ∈ rest.map (·.1)) ∧ ∀ k o, ops[k]? = some o → k ∈ done → L.getD k false = false → ∀ x ∈ as, o.apart ops x.o = true := by
  have hin : ∀ x ∈ as, x.j ∈ rest.map (·.1) := fun x hx => planOk_mem hp x.j (Array.getElem?_eq_some_iff.1 (h.ahead x hx).op).1 (h.ahead x hx).fresh
  refine ⟨hin, fun k o ho hk hL x hx => ?_⟩
  have ok := h.ahead x hx
  rcases planOk_apart hp k hk x.j (hin x hx) with g | g
  · have := ok.waits k g
    rw [hL] at this; cases this
  · rw [Array.getD_eq_getD_getElem?, ho, Array.getD_eq_getD_getElem?, ok.op] at g
    exact g
theorem any_core {w00 : Base} (hK : ∀ w0, KS P B w0 K) (hback : BackO ops) {fuel : Nat} (ih : Goal P B w00 ops K ro n Q Qx β0 fuel) {rest : Plan} {done acted : List Nat} {L : Array Bool} {ps : List Item} {as : List AItem} {w0 : Base} {β : Beta} {σ w : World} {aI aR : Act}
    (hf : fuel + 1 = unl L) (hp : planOk.go ops (waitsFor ops) rest done acted = true) (h : Inv P B w0 ops done L ps as β σ w aI aR) (hb : Base.le w00 w0) (hout : ∀ x ∈ as, Region.wanted x.o (yielded ops x.A.tmps) = true → ¬ w00.S x.r) (hle0 : β0.le β) (hQ : (iplan P K ops rest aI σ).all Q)
    (hhead : ∀ i re rest', rest = (i, re) :: rest' → acts (ops.getD i default).op = true ∧ ∀ x ∈ as, x.j ≠ i) {j : Nat} (hj : j ∈ Region.ready .any ops L) :
    wpOpIn (FF ro) n P ops Qx j (wpAnyIn (FF ro) n P .any ops Qx fuel (L.setIfInBounds j true)) aR w := by
  obtain ⟨hun, o, ho, hw⟩ := mem_ready.1 hj
  have hjlt : j < ops.size := (Array.getElem?_eq_some_iff.1 ho).1
  have hunf : L.getD j false = false := by
    rw [Array.getD_eq_getD_getElem?] at hun ⊢
    rw [Array.getElem?_eq_getElem (by rw [h.size]; exact hjlt)] at hun ⊢
    exact hun
  have hcount : fuel = unl (L.setIfInBounds j true) := by have := unl_set (by rw [h.size]; exact hjlt) hunf; omega
  have hwl : ∀ r, ((waitsFor ops).getD j 0).testBit r = true → L.getD r false = true :=
    waits_listed (L := fun r => L.getD r false = true) hback (fun i o hi ho => h.down i o hi ho) j j o (Nat.le_refl _) ho hw
  obtain ⟨hin, hfar⟩ := h.far hp
  have hapPA : ∀ p ∈ ps, ∀ x ∈ as, p.o.apart ops x.o = true := fun p hp1 => hfar p.i p.o (h.item p hp1).op (h.inDone hp1) (h.off p hp1)
  unfold wpOpIn
  rw [ho]
  simp only
  by_cases hpend : ∃ it ∈ ps, it.i = j
  · obtain ⟨it, hit, rfl⟩ := hpend
    obtain ⟨ps1, ps2, rfl⟩ := List.append_of_mem hit
    have ok := h.item it hit
    have hio : it.o = o := by have := ok.op; rw [ho] at this; exact (Option.some.inj this).symm
    subst hio
    have hap : ∀ p ∈ ps1, p.o.apart ops it.o = true := fun p hp1 => by
      have hpair := h.pair
      rw [List.pairwise_append] at hpair
      rcases hpair.2.2 p hp1 it (by simp) with g | g
      · have := hwl _ g
        rw [h.off p (by simp [hp1])] at this
        cases this
      · exact g
    obtain ⟨hsl, hcont⟩ := RunP.take h.hasAll hap h.run
    have hgo : ∀ v', VR β it.v v' → wpAnyIn (FF ro) n P .any ops Qx fuel (L.setIfInBounds it.i true) (aR.put it.o.dst v') w := fun v' hv => by
      have hrun := hcont β v' (.refl _) hv
      exact ih rest done acted _ (ps1 ++ ps2) as w0 β σ w aI _ hcount hp (h.take (hapPA it hit) hw hrun) hb hout hle0 hQ
    rw [hsl.wanted]
    rcases ok.val with ⟨hwt, ⟨hrd, hst⟩ | ⟨hrd, σ0, hst⟩⟩ | ⟨hwt, hv⟩
    · rw [hwt, if_pos rfl]
      obtain ⟨u, v', q, hrun, hv⟩ := read_istep hsl.rho hrd h.rel (Q := fun p => p = (.value it.v, σ)) (by rw [hst]; rfl)
      simp only [Prod.mk.injEq, Next.value.injEq] at q
      rw [q.1] at hv
      exact still_in (istep_noDefer (P := P) (ρ := it.A.eval) (σ := σ) (Q := fun _ => True) (by rw [hst]; trivial)) hrun (hgo v' hv)
    · rw [hwt, if_pos rfl]
      obtain ⟨u, v', q, hrun, hv⟩ := pure_istep hsl.rho ok.still hrd σ0 w (Q := fun p => p = (.value it.v, σ0)) (by rw [hst]; rfl)
      simp only [Prod.mk.injEq, Next.value.injEq] at q
      rw [q.1] at hv
      exact still_in (istep_noDefer (P := P) (ρ := it.A.eval) (σ := σ0) (Q := fun _ => True) (by rw [hst]; trivial)) hrun (hgo v' hv)
    · rw [hwt]
      simp only [Bool.false_eq_true, if_false]
      exact ⟨fun _ _ => trivial, hgo undef (by rw [hv]; exact undefVR β)⟩
  · have hnd : j ∉ done := fun hd => by
      rcases (h.mem j).1 (.inl hd) with g | g
      · rw [hunf] at g; cases g
      · exact hpend g
    have hnA : ∀ x ∈ as, x.j ≠ j := fun x hx e => by
      have := (h.ahead x hx).on
      rw [e, hunf] at this; cases this
    have hapPj : ∀ p ∈ ps, ((waitsFor ops).getD j 0).testBit p.i = false := fun p hp1 => by
      cases hb : ((waitsFor ops).getD j 0).testBit p.i with
      | false => rfl
      | true =>
        have := hwl _ hb
        rw [h.off p hp1] at this
        cases this
    have hjrest := planOk_mem hp j hjlt hnd
    have hapP : ∀ p ∈ ps, p.o.apart ops o = true := fun p hp1 => by
      rcases planOk_apart hp p.i (h.inDone hp1) j hjrest with g | g
      · rw [hapPj p hp1] at g; cases g
      · rw [Array.getD_eq_getD_getElem?, (h.item p hp1).op, Array.getD_eq_getD_getElem?, ho] at g; exact g
    cases rest with
    | nil => simp at hjrest
    | cons hd rest =>
      obtain ⟨i, re⟩ := hd
      obtain ⟨o', hs⟩ := planOk_step hp
      obtain ⟨hact, hni⟩ := hhead i re rest rfl
      have hact : acts o'.op = true := by
        rw [Array.getD_eq_getD_getElem?, hs.op] at hact
        exact hact
      have hiL : L.getD i false = false := by
        cases hL : L.getD i false with
        | false => rfl
        | true =>
          rcases (h.mem i).2 (.inl hL) with g | ⟨x, hx, e⟩
          · exact absurd g hs.fresh
          · exact absurd e (hni x hx)
      by_cases hji : j = i
      · subst hji
        have hoo : o = o' := by have := hs.op; rw [ho] at this; exact Option.some.inj this
        subst hoo
        have hapA : ∀ x ∈ as, o.apart ops x.o = true := fun x hx => by
          have ok := h.ahead x hx
          have hxr : x.j ∈ rest.map (·.1) := by
            have := hin x hx
            simp only [List.map_cons, List.mem_cons] at this
            rcases this with e | e
            · exact absurd e (hni x hx)
            · exact e
          rcases planOk_apart hs.rest j (by simp) x.j hxr with g | g
          · have := ok.waits j g
            rw [hunf] at this; cases this
          · rw [Array.getD_eq_getD_getElem?, ho, Array.getD_eq_getD_getElem?, ok.op] at g
            exact g
        have hsl : Slots β (o.looksAt ops) aI aR := RunP.slots (slots_apart hapA) h.hasAll h.run fun p hp1 => (Oper.apart_spec (hapP p hp1)).1
        have hQ := T.all_bind.1 hQ
        unfold iopAt at hQ
        rw [ho] at hQ
        simp only at hQ
        have hrest : planOk.go ops (waitsFor ops) rest (j :: done) (j :: acted) = true := by have := hs.rest; rw [hact] at this; simpa using this
        rw [hsl.wanted]
        cases hwt : Region.wanted o (yielded ops aI.tmps) with
        | true =>
          simp only [hwt, if_true] at hQ ⊢
          refine acts_in (hK w0) h.rel hsl.rho hact (T.all_bind.1 hQ) fun β2 v v' σ' w' hle hR' hv hq' => ?_
          obtain ⟨hre, hq'⟩ := recheck_then hq'
          exact ih rest (j :: done) (j :: acted) _ ps as w0 β2 σ' w' _ _ hcount hrest (h.act hs hact hapA hni hapPA hw hapPj hle hR' hv hre) hb hout (hle0.trans hle) hq'
        | false =>
          simp only [hwt, Bool.false_eq_true, if_false] at hQ ⊢
          obtain ⟨hre, hq'⟩ := recheck_then hQ
          exact ⟨fun _ _ => trivial, ih rest (j :: done) (j :: acted) _ ps as w0 β σ w _ _ hcount hrest (h.act hs hact hapA hni hapPA hw hapPj (.refl _) h.rel (undefVR β) hre) hb hout hle0 hq'⟩
      · have hjr : j ∈ rest.map (·.1) := by
          simp only [List.map_cons, List.mem_cons] at hjrest
          rcases hjrest with e | e
          · exact absurd e hji
          · exact e
        have hlate : lateOk ops (waitsFor ops) j o = true := by
          rcases planOk_waits hs.rest i (by rw [hact]; simp) j hjr with g | g
          · have := hwl i g
            rw [hiL] at this; cases this
          · rw [Array.getD_eq_getD_getElem?, ho] at g; exact g
        have hlo := (lateOk_acts hlate).1
        have hlw : ∀ q oq, ops[q]? = some oq → lateOp oq.op = true → ((waitsFor ops).getD j 0).testBit q = false := fun q oq hq hl => by
          simp only [lateOk, Bool.and_eq_true] at hlate
          have := List.all_eq_true.1 hlate.2 q (by simpa using (Array.getElem?_eq_some_iff.1 hq).1)
          rw [Array.getD_eq_getD_getElem? (xs := ops) (i := q), hq] at this
          simpa [hl] using this
        have hnw : ∀ k ∈ ((i, re) :: rest).map (·.1), ((waitsFor ops).getD j 0).testBit k = false := fun k hk => by
          cases hbt : ((waitsFor ops).getD j 0).testBit k with
          | false => rfl
          | true =>
            exfalso
            rcases (h.mem k).2 (.inl (hwl k hbt)) with g | ⟨x, hx, e⟩
            · have key : ∀ {p : Plan} {d a : List Nat}, planOk.go ops (waitsFor ops) p d a = true → k ∈ d → k ∉ p.map (·.1) := by
                intro p
                induction p with
                | nil => intro d a _ _ hm; simp at hm
                | cons hd p ihp =>
                  intro d a hpp hkd hm
                  obtain ⟨q, qr⟩ := hd
                  obtain ⟨oq, hsq⟩ := planOk_step hpp
                  simp only [List.map_cons, List.mem_cons] at hm
                  rcases hm with rfl | hm
                  · exact hsq.fresh hkd
                  · exact ihp hsq.rest (by simp [hkd]) hm
              exact key hp g hk
            · have ok := h.ahead x hx
              have := hlw x.j x.o ok.op (lateOk_acts ok.late).1
              rw [e, hbt] at this; cases this
        have htwo : ∀ x ∈ as, x.o.apart ops o = true ∨ o.apart ops x.o = true := fun x hx => by
          have ok := h.ahead x hx
          rcases planOk_two hp x.j (hin x hx) j hjrest (hnA x hx) with g | g | g | g
          · have := hlw x.j x.o ok.op (lateOk_acts ok.late).1
            rw [this] at g; cases g
          · have := ok.waits j g
            rw [hunf] at this; cases this
          · rw [Array.getD_eq_getD_getElem?, ok.op, Array.getD_eq_getD_getElem?, ho] at g; exact .inl g
          · rw [Array.getD_eq_getD_getElem?, ho, Array.getD_eq_getD_getElem?, ok.op] at g; exact .inr g
        have hdA : ∀ x ∈ as, ∀ d, x.o.dst = some d → o.dst ≠ some d ∧ d ∉ o.looksAt ops := fun x hx d hd => by
          rcases htwo x hx with g | g
          · obtain ⟨h1, h2, h3⟩ := Oper.apart_spec g
            exact ⟨h2 d hd, h1 d hd⟩
          · obtain ⟨h1, h2, h3⟩ := Oper.apart_spec g
            exact ⟨fun e => h2 d e hd, h3 d hd⟩
        have hsl : Slots β (o.looksAt ops) aI aR := RunP.slots (fun t ht hm => by
            obtain ⟨x, hx, hd⟩ := List.mem_filterMap.1 hm
            exact (hdA x hx t hd).2 ht) h.hasAll h.run fun p hp1 => (Oper.apart_spec (hapP p hp1)).1
        rw [hsl.wanted]
        cases hwt : Region.wanted o (yielded ops aI.tmps) with
        | true =>
          simp only [if_true]
          obtain ⟨ob, sh, hfo, hfit, hcon⟩ := will_lay (Q := Q) ho hlo hp hjrest hnw hQ hwt
          obtain ⟨ob', hfo', hcs⟩ := fresh_rel hfit.1 hcon hsl.rho hfo
          have hrun := fresh_run hfo' w
          have hdef : ∀ c, o.op ≠ .defer c := fun c hc => by rw [hc] at hlo; cases hlo
          refine ⟨fun _ _ => trivial, ?_⟩
          rw [Oper.semAt_eq _ _ _ hdef, hrun]
          refine ih ((i, re) :: rest) done acted _ ps (as ++ [⟨j, o, aI, sh w.heap.size, w.heap.size⟩]) (w0.hold w.heap.size ob') β σ _ aI _ hcount hp
            (h.early (x := ⟨j, o, aI, sh w.heap.size, w.heap.size⟩) ho hlate hnd hunf (fun p hp1 e => hpend ⟨p, hp1, e⟩) rfl hapP (fun y hy d hd => (hdA y hy d hd).1) hwl hw (fun y hy hwy => ?_) (fun y hy hwy _ => ?_) (.inr ⟨hwt, Or.inr rfl, h.rel.size, ob, ob', sh, hfo, hfit, rfl, by simp [Base.hold], hcs⟩) (h.rel.early _)) ⟨hb.1, fun k hk => ?_⟩ (fun x hx hwx => ?_) hle0 hQ
          · rcases (h.ahead y hy).res with r | ⟨r1, r2, _⟩
            · rw [r.1] at hwy; cases hwy
            · obtain ⟨z, hz, _⟩ := h.rel.held _ r2
              have hne : y.r ≠ w.heap.size := Nat.ne_of_lt (Array.getElem?_eq_some_iff.1 hz).1
              exact ⟨Or.inl r2, by simp only [Base.hold, if_neg hne]⟩
          · rcases (h.ahead y hy).res with r | ⟨r1, r2, _⟩
            · rw [r.1] at hwy; cases hwy
            · obtain ⟨z, hz, _⟩ := h.rel.held _ r2
              exact Nat.ne_of_lt (Array.getElem?_eq_some_iff.1 hz).1
          · obtain ⟨q1, q2⟩ := hb.2 k hk
            obtain ⟨z, hz, _⟩ := h.rel.held _ q1
            have hne : k ≠ w.heap.size := Nat.ne_of_lt (Array.getElem?_eq_some_iff.1 hz).1
            exact ⟨Or.inl q1, by simp only [Base.hold, if_neg hne]; exact q2⟩
          · rw [List.mem_append, List.mem_singleton] at hx
            rcases hx with hx | rfl
            · exact hout x hx hwx
            · intro hs0
              obtain ⟨z, hz, _⟩ := h.rel.held _ (hb.2 _ hs0).1
              exact absurd (Array.getElem?_eq_some_iff.1 hz).1 (Nat.lt_irrefl _)
        | false =>
          simp only [Bool.false_eq_true, if_false]
          refine ⟨fun _ _ => trivial, ?_⟩
          refine ih ((i, re) :: rest) done acted _ ps (as ++ [⟨j, o, aI, undef, 0⟩]) w0 β σ w aI _ hcount hp
            (h.early (x := ⟨j, o, aI, undef, 0⟩) ho hlate hnd hunf (fun p hp1 e => hpend ⟨p, hp1, e⟩) rfl hapP (fun y hy d hd => (hdA y hy d hd).1) hwl hw (fun y hy hwy => ?_) (fun y hy hwy hn => by simp only at hn; rw [hwt] at hn; cases hn) (.inl ⟨hwt, rfl⟩) h.rel) hb (fun x hx hwx => ?_) hle0 hQ
          · rcases (h.ahead y hy).res with r | ⟨r1, r2, _⟩
            · rw [r.1] at hwy; cases hwy
            · exact ⟨r2, rfl⟩
          · rw [List.mem_append, List.mem_singleton] at hx
            rcases hx with hx | rfl
            · exact hout x hx hwx
            · simp only at hwx; rw [hwt] at hwx; cases hwx
theorem any_steps {w00 : Base} {fuel : Nat} (hstop : ∀ (rest : Plan) (done acted : List Nat) (L : Array Bool) (ps : List Item) (as : List AItem) (w0 : Base) (β : Beta) (σ w : World) (aI aR : Act), fuel = unl L → planOk.go ops (waitsFor ops) rest done acted = true →
      Inv P B w0 ops done L ps as β σ w aI aR → Base.le w00 w0 → (∀ x ∈ as, Region.wanted x.o (yielded ops x.A.tmps) = true → ¬ w00.S x.r) → β0.le β → (iplan P K ops rest aI σ).all Q →
      (∀ i re rest', rest = (i, re) :: rest' → acts (ops.getD i default).op = true ∧ ∀ x ∈ as, x.j ≠ i) → wpAnyIn (FF ro) n P .any ops Qx fuel L aR w) : Goal P B w00 ops K ro n Q Qx β0 fuel := by
  intro rest
  induction rest with
  | nil => intro done acted L ps as w0 β σ w aI aR hf hp h hb hout hle hQ; exact hstop _ _ _ _ _ _ _ _ _ _ _ _ hf hp h hb hout hle hQ (fun _ _ _ e => by cases e)
  | cons hd rest ihr =>
    intro done acted L ps as w0 β σ w aI aR hf hp h hb hout hle hQ
    obtain ⟨i, re⟩ := hd
    obtain ⟨o, hs⟩ := planOk_step hp
    obtain ⟨hin, hfar⟩ := h.far hp
    have hapPA : ∀ p ∈ ps, ∀ x ∈ as, p.o.apart ops x.o = true := fun p hp1 => hfar p.i p.o (h.item p hp1).op (h.inDone hp1) (h.off p hp1)
    cases ha : acts o.op with
    | true =>
      by_cases hah : ∃ x ∈ as, x.j = i
      · obtain ⟨x, hx, rfl⟩ := hah
        have okx := h.ahead x hx
        have hxo : x.o = o := by have := okx.op; rw [hs.op] at this; exact (Option.some.inj this).symm
        subst hxo
        obtain ⟨as1, as2, rfl⟩ := List.append_of_mem hx
        have hQ := T.all_bind.1 hQ
        unfold iopAt at hQ
        rw [hs.op] at hQ
        simp only at hQ
        have hrest : planOk.go ops (waitsFor ops) rest (x.j :: done) (x.j :: acted) = true := by have := hs.rest; rw [ha] at this; simpa using this
        have hwx : Region.wanted x.o (yielded ops aI.tmps) = Region.wanted x.o (yielded ops x.A.tmps) := (wanted_of_slots okx.look).symm
        have hsub : ∀ y ∈ as1 ++ as2, y ∈ as1 ++ x :: as2 := fun y hy => by
          rw [List.mem_append] at hy ⊢
          exact hy.imp id (List.mem_cons_of_mem _)
        have hne : ∀ y ∈ as1 ++ as2, y.j ≠ x.j ∧ (Region.wanted x.o (yielded ops x.A.tmps) = true → Region.wanted y.o (yielded ops y.A.tmps) = true → y.r ≠ x.r) := fun y hy => by
          have := h.once
          rw [List.pairwise_append] at this
          rw [List.mem_append] at hy
          rcases hy with hy | hy
          · have q := this.2.2 y hy x (by simp)
            exact ⟨q.1, fun w1 w2 e => q.2 _ w2 w1 e rfl⟩
          · have h2 := this.2.1
            rw [List.pairwise_cons] at h2
            have q := h2.1 y hy
            exact ⟨fun e => q.1 e.symm, fun w1 w2 e => q.2 _ w1 w2 rfl e⟩
        have hap2 : ∀ y ∈ as1 ++ as2, ∀ d, x.o.dst = some d → d ∉ y.o.looksAt ops := fun y hy d hd => by
          have oky := h.ahead y (hsub y hy)
          have hyr : y.j ∈ rest.map (·.1) := by
            have := hin y (hsub y hy)
            simp only [List.map_cons, List.mem_cons] at this
            rcases this with e | e
            · exact absurd e (hne y hy).1
            · exact e
          rcases planOk_apart hs.rest x.j (by simp) y.j hyr with g | g
          · have hl := oky.late
            simp only [lateOk, Bool.and_eq_true] at hl
            have := List.all_eq_true.1 hl.2 x.j (by simpa using (Array.getElem?_eq_some_iff.1 okx.op).1)
            rw [Array.getD_eq_getD_getElem? (xs := ops) (i := x.j), okx.op] at this
            simp only [Option.getD_some, (lateOk_acts okx.late).1, Bool.not_true, Bool.false_or, Bool.not_eq_true'] at this
            rw [this] at g; cases g
          · rw [Array.getD_eq_getD_getElem?, okx.op, Array.getD_eq_getD_getElem?, oky.op] at g
            exact (Oper.apart_spec g).1 d hd
        rcases okx.res with ⟨r0, r1⟩ | ⟨r1, r2, r3, ob, ob', sh, r4, r5, r6, r7, r8⟩
        · rw [hwx, r0] at hQ
          simp only [Bool.false_eq_true, if_false] at hQ
          obtain ⟨hre, hq'⟩ := recheck_then hQ
          refine ihr (x.j :: done) (x.j :: acted) L ps (as1 ++ as2) w0 β σ w _ aR hf hrest (h.late hs hapPA hap2 (fun y hy hwy => ?_) (.refl _) h.rel (by rw [r1]; exact undefVR β) hre) hb (fun y hy => hout y (hsub y hy)) hle hq'
          rcases (h.ahead y (hsub y hy)).res with r | ⟨_, q2, _⟩
          · rw [r.1] at hwy; cases hwy
          · exact ⟨q2, rfl⟩
        · rw [hwx, r1] at hQ
          simp only [if_true] at hQ
          have hfo : freshObj P x.o.op aI.eval = some (ob, sh) := by rw [← r4]; exact fresh_congr fun y hy => (eval_of_slots okx.look y hy).symm
          have hq := T.all_bind.1 (T.all_bind.1 hQ)
          obtain ⟨ob2, sh2, g1, g2, _⟩ := fresh_of (lateOk_acts okx.late).1 hq
          rw [hfo] at g1
          simp only [Option.some.injEq, Prod.mk.injEq] at g1
          obtain ⟨rfl, rfl⟩ := g1
          obtain ⟨hre, hq'⟩ := recheck_then g2
          have hle2 := Beta.le_put (bi := biOf P x.r ob) h.rel.fresh
          refine ihr (x.j :: done) (x.j :: acted) L ps (as1 ++ as2) (w0.free x.r) _ _ w _ aR hf hrest (h.late hs hapPA hap2 (fun y hy hwy => ?_) hle2 (h.rel.late r2 r7 r3 r8) ?_ hre) ⟨hb.1, fun k hk => ?_⟩ (fun y hy => hout y (hsub y hy)) (hle.trans hle2) hq'
          · rcases (h.ahead y (hsub y hy)).res with r | ⟨_, q2, _⟩
            · rw [r.1] at hwy; cases hwy
            · exact ⟨⟨q2, (hne y hy).2 r1 hwy⟩, rfl⟩
          · rw [r6]
            exact fresh_shape r4 r5.2 (b := σ.heap.size) (bi := biOf P x.r ob) (by unfold Beta.put; rw [if_pos rfl]) (biOf_r _ _ _) (biOf_d _ _ _)
          · obtain ⟨q1, q2⟩ := hb.2 k hk
            exact ⟨⟨q1, fun e => hout x hx r1 (e ▸ hk)⟩, q2⟩
      · exact hstop _ _ _ _ _ _ _ _ _ _ _ _ hf hp h hb hout hle hQ (fun i' re' rest' e => by
          simp only [List.cons.injEq, Prod.mk.injEq] at e
          obtain ⟨⟨rfl, _⟩, _⟩ := e
          exact ⟨by rw [Array.getD_eq_getD_getElem?, hs.op]; exact ha, fun x hx e => hah ⟨x, hx, e⟩⟩)
    | false =>
      have hQ := T.all_bind.1 hQ
      unfold iopAt at hQ
      rw [hs.op] at hQ
      simp only at hQ
      have hrest := hs.rest
      rw [ha] at hrest
      simp only [Bool.false_eq_true, if_false] at hrest
      have hna : ∀ x ∈ as, x.j ≠ i := fun x hx e => by
        have ok := h.ahead x hx
        have := ok.op
        rw [e, hs.op] at this
        simp only [Option.some.injEq] at this
        have h2 := (lateOk_acts ok.late).2
        rw [← this, ha] at h2; cases h2
      have hiL : L.getD i false = false := by
        cases hL : L.getD i false with
        | false => rfl
        | true =>
          rcases (h.mem i).2 (.inl hL) with g | ⟨x, hx, e⟩
          · exact absurd g hs.fresh
          · exact absurd e (hna x hx)
      have hapA : ∀ x ∈ as, o.apart ops x.o = true := fun x hx => by
        have ok := h.ahead x hx
        have hxr : x.j ∈ rest.map (·.1) := by
          have := hin x hx
          simp only [List.map_cons, List.mem_cons] at this
          rcases this with e | e
          · exact absurd e (hna x hx)
          · exact e
        rcases planOk_apart hs.rest i (by simp) x.j hxr with g | g
        · have := ok.waits i g
          rw [hiL] at this; cases this
        · rw [Array.getD_eq_getD_getElem?, hs.op, Array.getD_eq_getD_getElem?, ok.op] at g
          exact g
      obtain ⟨aV, hV⟩ := RunP.virtual h.hasAll h.run
      have hsl := hV.slots (slots_apart hapA)
      cases hwt : Region.wanted o (yielded ops aI.tmps) with
      | true =>
        simp only [hwt, if_true] at hQ
        have hQ := T.all_bind.1 (T.all_bind.1 hQ)
        rcases flat_istep (P := P) (ρ := aI.eval) (o := o) (σ := σ) ha with ⟨p, hpr⟩ | hbad
        · obtain ⟨v, v', q, _, hv⟩ := still_istep hsl.rho ha h.rel (Q := fun x => x = p) (by rw [hpr]; rfl)
          rw [hpr, ← q] at hQ
          obtain ⟨_, hq'⟩ := recheck_then hQ
          refine ihr (i :: done) acted L (ps ++ [⟨i, o, aI, v⟩]) as w0 β σ w _ aR hf hrest (h.push hs ha hapA hna ?_ ⟨v', hv⟩) hb hout hle hq'
          refine .inl ⟨hwt, ?_⟩
          cases hrd : reads o.op with
          | true => exact .inl ⟨rfl, by rw [hpr, ← q]⟩
          | false => exact .inr ⟨rfl, σ, by rw [hpr, ← q]⟩
        · rw [hbad] at hQ; exact hQ.elim
      | false =>
        simp only [hwt, Bool.false_eq_true, if_false] at hQ
        obtain ⟨_, hq'⟩ := recheck_then hQ
        exact ihr (i :: done) acted L (ps ++ [⟨i, o, aI, undef⟩]) as w0 β σ w _ aR hf hrest (h.push hs ha hapA hna (.inr ⟨hwt, rfl⟩) ⟨undef, undefVR β⟩) hb hout hle hq'
theorem Inv.finish {done acted : List Nat} {L : Array Bool} {ps : List Item} {as : List AItem} {β : Beta} {σ w : World} {aI aR : Act} {rest : Plan} (h : Inv P B w0 ops done L ps as β σ w aI aR)
    (hp : planOk.go ops (waitsFor ops) rest done acted = true) (hall : ∀ i, i < ops.size → L.getD i false = true) (hhead : ∀ i re rest', rest = (i, re) :: rest' → ∀ x ∈ as, x.j ≠ i) : ps = [] ∧ rest = [] ∧ as = [] := by
  have h1 : ps = [] := by
    rw [List.eq_nil_iff_forall_not_mem]
    intro it hi
    have := hall it.i (Array.getElem?_eq_some_iff.1 (h.item it hi).op).1
    rw [h.off it hi] at this
    cases this
  have h2 : rest = [] := by
    cases rest with
    | nil => rfl
    | cons hd rest =>
      obtain ⟨i, re⟩ := hd
      obtain ⟨o, hs⟩ := planOk_step hp
      rcases (h.mem i).2 (.inl (hall i (Array.getElem?_eq_some_iff.1 hs.op).1)) with g | ⟨x, hx, e⟩
      · exact absurd g hs.fresh
      · exact absurd e (hhead i re rest rfl x hx)
  refine ⟨h1, h2, ?_⟩
  rw [List.eq_nil_iff_forall_not_mem]
  intro x hx
  have := (h.far hp).1 x hx
  rw [h2] at this
  simp at this
theorem any_in {w00 : Base} (hK : ∀ w0, KS P B w0 K) (hback : BackO ops) (hq : ∀ β2 a a' σ' w', β0.le β2 → R P B w00 β2 σ' w' → ActR β2 a a' → Q (a, σ') → Qx .normal a' w') :
    ∀ fuel, Goal P B w00 ops K ro n Q Qx β0 fuel := by
  have fin : ∀ {rest : Plan} {done acted : List Nat} {L : Array Bool} {ps : List Item} {as : List AItem} {w0 : Base} {β : Beta} {σ w : World} {aI aR : Act}, planOk.go ops (waitsFor ops) rest done acted = true →
      Inv P B w0 ops done L ps as β σ w aI aR → Base.le w00 w0 → β0.le β → (iplan P K ops rest aI σ).all Q → (∀ i re rest', rest = (i, re) :: rest' → acts (ops.getD i default).op = true ∧ ∀ x ∈ as, x.j ≠ i) →
      (∀ i, i < ops.size → L.getD i false = true) → Qx .normal aR w := by
    intro rest done acted L ps as w0 β σ w aI aR hp h hb hle hQ hhead hall
    obtain ⟨h1, h2, h3⟩ := h.finish hp hall (fun i re rest' e => (hhead i re rest' e).2)
    subst h1; subst h2; subst h3
    exact hq _ _ _ _ _ hle (R.weaken hb h.rel) (ActX.whole h.run) hQ
  intro fuel
  induction fuel with
  | zero =>
    refine any_steps fun rest done acted L ps as w0 β σ w aI aR hf hp h hb hout hle hQ hhead => ?_
    have hall : ∀ i, i < ops.size → L.getD i false = true := fun i hi => unl_zero hf.symm i (by rw [h.size]; exact hi)
    refine ⟨?_, fin hp h hb hle hQ hhead hall⟩
    rw [List.eq_nil_iff_forall_not_mem]
    intro j hj
    obtain ⟨hun, o, ho, _⟩ := mem_ready.1 hj
    have hjlt : j < ops.size := (Array.getElem?_eq_some_iff.1 ho).1
    have := hall j hjlt
    rw [Array.getD_eq_getD_getElem?] at this hun
    rw [Array.getElem?_eq_getElem (by rw [h.size]; exact hjlt)] at this hun
    simp only [Option.getD_some] at this
    rw [this] at hun; cases hun
  | succ fuel ih =>
    refine any_steps fun rest done acted L ps as w0 β σ w aI aR hf hp h hb hout hle hQ hhead => ?_
    exact ⟨fun hr => fin hp h hb hle hQ hhead fun i hi => all_listed hback h.size hr i i (Nat.le_refl _) hi, fun j hj => any_core hK hback ih hf hp h hb hout hle hQ hhead hj⟩
theorem region_in (hm : P.follows .mixedOrders = true) (hK : ∀ w0, KS P B w0 K) {id : Nat} {draw : Bool} {β : Beta} {aI aR : Act} {σ w : World} (hR : R P B w0 β σ w) (hA : ActR β aI aR) (hQ : (iregion P K ops draw aI σ).all Q)
    (hq : ∀ β2 a a' σ' w', β.le β2 → R P B w0 β2 σ' w' → ActR β2 a a' → Q (a, σ') → Qx .normal a' w') : (Code.region id ops draw).wpIn (FF ro) n P Qx aR w := by
  unfold iregion at hQ
  cases draw with
  | false => exact wpIn_region (iops_in (hK w0) _ hR hA hQ hq)
  | true =>
    simp only [if_true] at hQ
    split at hQ
    · rename_i hok
      unfold planOk at hok
      simp only [Bool.and_eq_true, decide_eq_true_eq] at hok
      refine wpIn_region_any hm ?_
      have hback : BackO ops := fun i o ho => planOk_back hok.2 i (planOk_mem hok.2 i (Array.getElem?_eq_some_iff.1 ho).1 (by simp)) o ho
      refine any_in hK hback hq ops.size (mkPlan ops) [] [] _ [] [] w0 β σ _ aI aR ?_ hok.2 ⟨hR.drew, by simp, (fun it hi => by cases hi), ActX.of hA, List.Pairwise.nil, List.nodup_nil, (fun it hi => by cases hi), fun i => ?_, fun i o hi => ?_, (fun x hx => by cases hx), List.Pairwise.nil, List.Pairwise.nil⟩ (.refl _) (fun x hx => by cases hx) (.refl _) hQ
      · unfold unl
        rw [Array.size_replicate, List.countP_eq_length.2, List.length_range]
        intro i hi
        rw [Array.getD_eq_getD_getElem?, Array.getElem?_replicate]
        split <;> rfl
      · constructor
        · rintro (hi | ⟨x, hx, _⟩)
          · cases hi
          · cases hx
        · rintro (hi | ⟨it, hi, _⟩)
          · rw [Array.getD_eq_getD_getElem?, Array.getElem?_replicate] at hi
            split at hi <;> cases hi
          · cases hi
      · rw [Array.getD_eq_getD_getElem?, Array.getElem?_replicate] at hi
        split at hi <;> cases hi
    · exact hQ.elim
end
end Go.Ideal
