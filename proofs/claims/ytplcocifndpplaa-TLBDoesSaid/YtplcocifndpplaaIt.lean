/-
  Regions that draw their order: the plan stands for every order.
-/
import Derived.Test.YtplcocifndpplaaIs
namespace Go.Ideal
open Go

/-! ### Flat trees -/
def Flat {α : Type} (t : T α) : Prop := (∃ p, t = .ret p) ∨ t = .bad

theorem flat_ofRun {α : Type} (r : Result α) : Flat (ofRun r) := by
  cases r with
  | ok a w => exact .inl ⟨_, rfl⟩
  | halt x w => exact .inr rfl
theorem flat_bad {α : Type} : Flat (.bad : T α) := .inr rfl
theorem flat_ret {α : Type} (a : α) : Flat (.ret a) := .inl ⟨_, rfl⟩
theorem flat_ite {α : Type} {c : Prop} [Decidable c] {x y : T α} (hx : Flat x) (hy : Flat y) : Flat (if c then x else y) := by
  by_cases h : c
  · rw [if_pos h]; exact hx
  · rw [if_neg h]; exact hy
theorem flat_map {α γ : Type} {t : T α} (h : Flat t) (f : α → γ) : Flat (t.bind fun x => .ret (f x)) := by
  rcases h with ⟨p, rfl⟩ | rfl
  · exact .inl ⟨_, rfl⟩
  · exact .inr rfl

theorem flat_isliceOpen (P : Program) (elem : TypeId) (a : Addr) (len : Nat) (lo hi mx : Option Value) (w : World) : Flat (isliceOpen P elem a len lo hi mx w) := by
  unfold isliceOpen
  repeat' split
  all_goals first | exact flat_bad | exact flat_ret _

theorem flat_islice (P : Program) (t : TypeId) (x : Value) (lo hi mx : Option Value) (w : World) : Flat (islice P t x lo hi mx w) := by
  unfold islice
  repeat' split
  all_goals first | exact flat_bad | exact flat_ofRun _ | exact flat_isliceOpen ..

theorem flat_istep {P : Program} {ρ : Operand → Value} {o : Oper} {σ : World} (ha : acts o.op = false) : Flat (istep P ρ o σ) := by
  unfold istep
  dsimp only
  refine flat_ite ?_ flat_bad
  obtain ⟨dst, op, ty, pos, after, guard⟩ := o
  simp only at ha
  cases op with
  | slice t x lo hi mx => exact flat_map (flat_islice ..) _
  | next it b => cases ha
  | call c =>
    obtain ⟨callee, args, argTypes⟩ := c
    cases callee with
    | value f => cases ha
    | invoke x n => cases ha
    | builtin b =>
      cases b <;> first | (cases ha; done) | exact flat_bad | exact flat_ofRun _ | exact flat_ite (flat_ofRun _) flat_bad
  | makeFunc fn first captured => cases fn <;> first | exact flat_bad | exact flat_ite (flat_ofRun _) flat_bad
  | makeMap t r => cases r <;> first | exact flat_bad | exact flat_ofRun _
  | _ => first | exact flat_bad | exact flat_ofRun _ | exact flat_ite (flat_ofRun _) flat_bad

theorem istep_congr {P : Program} {ρ ρ' : Operand → Value} {o : Oper} (h : ∀ x ∈ o.op.operands, ρ x = ρ' x) (σ : World) : istep P ρ o σ = istep P ρ' o σ := by
  cases hc : o.op.operands.all constFit with
  | false => simp only [istep, hc, Bool.false_eq_true, if_false]
  | true =>
    by_cases hs : ∀ cs b, o.op ≠ .select cs b
    · have he := execOp_congr (ρ := ρ) (ρ' := ρ') o hs h
      obtain ⟨dst, op, ty, pos, after, guard⟩ := o
      simp only [istep, hc, if_true]
      rw [he]
      cases op with
      | slice t x lo hi mx =>
        have hx := h x (by simp [Op.operands])
        have hl : lo.map ρ = lo.map ρ' := by cases lo <;> simp_all [Op.operands]
        have hh : hi.map ρ = hi.map ρ' := by cases hi <;> simp_all [Op.operands]
        have hm : mx.map ρ = mx.map ρ' := by cases mx <;> simp_all [Op.operands]
        simp only [hx, hl, hh, hm]
      | next it b => simp only [h it (by simp [Op.operands])]
      | call c =>
        obtain ⟨callee, args, argTypes⟩ := c
        have hargs : ∀ x ∈ args, ρ x = ρ' x := fun x hx => h x (by simp [Op.operands, Call.operands, hx])
        have hm : args.map ρ = args.map ρ' := Array.map_congr_left hargs
        cases callee with
        | value f => simp only [h f (by simp [Op.operands, Call.operands])]
        | invoke x n => rfl
        | builtin b =>
          have hall : (args.toList.all fun x => keyFit (ρ x)) = args.toList.all fun x => keyFit (ρ' x) := by
            rw [Bool.eq_iff_iff, List.all_eq_true, List.all_eq_true]
            exact ⟨fun g x hx => by rw [← hargs x (by simpa using hx)]; exact g x hx, fun g x hx => by rw [hargs x (by simpa using hx)]; exact g x hx⟩
          have h1 : (args[1]?).map ρ = (args[1]?).map ρ' := by
            cases ha : args[1]? with
            | none => rfl
            | some x => simp only [Option.map_some, hargs x (Array.mem_of_getElem? ha)]
          cases b <;> dsimp only <;> first | rfl | (simp only [hm]; done) | (rw [hall]; done) | (rw [h1]; done)
      | binOp op t x y _ => simp only [h x (by simp [Op.operands]), h y (by simp [Op.operands])]
      | lookup t x k ok => simp only [h k (by simp [Op.operands])]
      | makeSlice t l c => simp only [h c (by simp [Op.operands])]
      | mapUpdate t m k x => simp only [h k (by simp [Op.operands])]
      | convert s d x => simp only [h x (by simp [Op.operands])]
      | unOp op t x => simp only [h x (by simp [Op.operands])]
      | makeFunc fn first captured => cases fn <;> rfl
      | makeMap t r => cases r <;> rfl
      | _ => rfl
    · obtain ⟨dst, op, ty, pos, after, guard⟩ := o
      simp only [Classical.not_forall, ne_eq, Decidable.not_not] at hs
      obtain ⟨cs, b, hs⟩ := hs
      have hs := Classical.not_not.1 hs
      subst hs
      simp only [istep, hc, if_true]

/-! ### The same plain value -/
theorem str_eq {a b : ByteArray} (h : a.data.toList = b.data.toList) : Value.string a = Value.string b := by
  congr 1
  apply ByteArray.ext
  apply Array.ext'
  exact h

theorem rows_eq {n : Nat} (ih : ∀ (a b : Value), veq n a b = true → a = b) {a b : Array Value} (hs : a.size = b.size) (h : ∀ x ∈ a.toList.zip b.toList, veq n x.1 x.2 = true) : a = b := by
  apply Array.ext hs
  intro i h1 h2
  refine ih _ _ (h (a[i], b[i]) ?_)
  rw [List.mem_iff_getElem]
  exact ⟨i, by rw [List.length_zip, Array.length_toList, Array.length_toList]; omega, by simp⟩

theorem veq_eq : ∀ (n : Nat) (a b : Value), veq n a b = true → a = b := by
  intro n
  induction n with
  | zero => intro a b h; cases a <;> cases b <;> first | (simp [veq] at h; done) | rfl | (simp only [veq, beq_iff_eq] at h; exact str_eq h) | (simp [veq] at h; simp [h]; done)
  | succ n ih =>
    intro a b h
    cases a <;> cases b <;> first
      | (simp [veq] at h; done)
      | rfl
      | (simp only [veq, beq_iff_eq] at h; exact str_eq h)
      | (simp [veq] at h; simp [h]; done)
      | (simp only [veq, Bool.and_eq_true, beq_iff_eq] at h; rw [h.1, ih _ _ h.2]; done)
      | (simp only [veq, Bool.and_eq_true, beq_iff_eq, List.all_eq_true] at h; exact congrArg _ (rows_eq ih h.1 h.2))

/-! ### What is waited for -/
theorem waits_inner (acc : Array Nat) : ∀ (l : List Edge) (s r : Nat), (l.foldl (fun s e => if Region.binds .any e then s ||| 2 ^ e.on ||| acc.getD e.on 0 else s) s).testBit r = true →
    s.testBit r = true ∨ ∃ e ∈ l, Region.binds .any e = true ∧ (r = e.on ∨ (acc.getD e.on 0).testBit r = true)
  | [], s, r, h => .inl h
  | e :: l, s, r, h => by
    simp only [List.foldl_cons] at h
    rcases waits_inner acc l _ r h with h | ⟨e', he', hb, hr⟩
    · by_cases hb : Region.binds .any e = true
      · simp only [hb, if_true, Nat.testBit_or, Bool.or_eq_true, Nat.testBit_two_pow, decide_eq_true_eq] at h
        rcases h with (h | h) | h
        · exact .inl h
        · exact .inr ⟨e, by simp, hb, .inl h.symm⟩
        · exact .inr ⟨e, by simp, hb, .inr h⟩
      · simp only [hb, Bool.false_eq_true, if_false] at h
        exact .inl h
    · exact .inr ⟨e', by simp [he'], hb, hr⟩

def WaitsGood (ops : Array Oper) (acc : Array Nat) : Prop :=
  ∀ i r, (acc.getD i 0).testBit r = true → ∃ o, ops[i]? = some o ∧ ∃ e ∈ o.after, Region.binds .any e = true ∧ (r = e.on ∨ (acc.getD e.on 0).testBit r = true)

theorem waits_go (ops : Array Oper) : ∀ (l d : List Oper) (acc : Array Nat), ops.toList = d ++ l → acc.size = d.length → WaitsGood ops acc →
    WaitsGood ops (l.foldl (fun acc o => acc.push (o.after.foldl (fun s e => if Region.binds .any e then s ||| 2 ^ e.on ||| acc.getD e.on 0 else s) 0)) acc)
  | [], d, acc, _, _, h => h
  | o :: l, d, acc, hops, hsz, h => by
    simp only [List.foldl_cons]
    refine waits_go ops l (d ++ [o]) _ (by simp [hops]) (by simp [hsz]) ?_
    have mono : ∀ (x : Nat) k r, (acc.getD k 0).testBit r = true → ((acc.push x).getD k 0).testBit r = true := by
      intro x k r hk
      rw [Array.getD_eq_getD_getElem?] at hk ⊢
      rw [Array.getElem?_push]
      by_cases hks : k = acc.size
      · subst hks
        rw [Array.getElem?_eq_none (Nat.le_refl _)] at hk
        simp at hk
      · rw [if_neg hks]; exact hk
    intro i r hi
    by_cases his : i = acc.size
    · have ho : ops[i]? = some o := by rw [← Array.getElem?_toList, hops, his, hsz]; simp
      rw [Array.getD_eq_getD_getElem?, Array.getElem?_push, if_pos his] at hi
      simp only [Option.getD_some, ← Array.foldl_toList] at hi
      rcases waits_inner acc _ _ _ hi with h0 | ⟨e, he, hb, hr⟩
      · simp at h0
      · exact ⟨o, ho, e, by simpa using he, hb, hr.imp id (mono _ _ _)⟩
    · have hi' : (acc.getD i 0).testBit r = true := by
        rw [Array.getD_eq_getD_getElem?, Array.getElem?_push, if_neg his] at hi
        rw [Array.getD_eq_getD_getElem?]; exact hi
      obtain ⟨o', ho', e, he, hb, hr⟩ := h i r hi'
      exact ⟨o', ho', e, he, hb, hr.imp id (mono _ _ _)⟩

theorem waits_good (ops : Array Oper) : WaitsGood ops (waitsFor ops) := by
  unfold waitsFor
  rw [← Array.foldl_toList]
  exact waits_go ops ops.toList [] #[] rfl rfl (fun i r h => by simp at h)

/-- Where what is listed has all that it waits for listed, and edges lead back, so has it all that those wait for. -/
theorem waits_listed {ops : Array Oper} {L : Nat → Prop} (hback : ∀ i o, ops[i]? = some o → ∀ e ∈ o.after, Region.binds .any e = true → e.on < i)
    (hdown : ∀ i o, L i → ops[i]? = some o → ∀ e ∈ o.after, Region.binds .any e = true → L e.on) :
    ∀ (n i : Nat) (o : Oper), i ≤ n → ops[i]? = some o → (∀ e ∈ o.after, Region.binds .any e = true → L e.on) → ∀ r, ((waitsFor ops).getD i 0).testBit r = true → L r := by
  intro n
  induction n with
  | zero =>
    intro i o hi ho hw r hr
    obtain ⟨o', ho', e, he, hb, hr⟩ := waits_good ops i r hr
    have := hback i o' ho' e he hb
    omega
  | succ n ih =>
    intro i o hi ho hw r hr
    obtain ⟨o', ho', e, he, hb, hr⟩ := waits_good ops i r hr
    rw [ho] at ho'
    simp only [Option.some.injEq] at ho'
    subst ho'
    have hlt := hback i o ho e he hb
    rcases hr with rfl | hr
    · exact hw e he hb
    · obtain ⟨o2, ho2, _⟩ := waits_good ops e.on r hr
      exact ih e.on o2 (by omega) ho2 (hdown _ _ (hw e he hb) ho2) r hr
end Go.Ideal
