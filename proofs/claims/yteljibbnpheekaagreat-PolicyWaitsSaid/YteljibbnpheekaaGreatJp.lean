/-
  Maps from numbers, read as lists.
-/
import Derived.Test.YteljibbnpheekaaGreatJj
import Derived.Test.YteljibbnpheekaaGreatIx
namespace Go.Ideal
open Go

abbrev MapL := List (Int × Value)
def getM : MapL → Int → Option Value
  | [], _ => none
  | (j, u) :: m, i => if j = i then some u else getM m i
def putM : MapL → Int → Value → MapL
  | [], i, v => [(i, v)]
  | (j, u) :: m, i, v => if j = i then (i, v) :: m else (j, u) :: putM m i v
def delM : MapL → Int → MapL
  | [], _ => []
  | (j, u) :: m, i => if j = i then m else (j, u) :: delM m i
def keysM (m : MapL) : List Int := m.map (·.1)

theorem getM_put (m : MapL) (i j : Int) (v : Value) : getM (putM m i v) j = if j = i then some v else getM m j := by
  induction m with
  | nil => simp only [putM, getM]; by_cases h : i = j
           · rw [if_pos h, if_pos h.symm]
           · rw [if_neg h, if_neg (fun hh => h hh.symm)]
  | cons p m ih =>
    obtain ⟨q, u⟩ := p
    simp only [putM]
    by_cases h : q = i
    · subst h
      rw [if_pos rfl]
      simp only [getM]
      by_cases h2 : q = j
      · rw [if_pos h2, if_pos h2.symm]
      · rw [if_neg h2, if_neg (fun hh => h2 hh.symm), if_neg h2]
    · rw [if_neg h]
      simp only [getM, ih]
      by_cases h2 : q = j
      · subst h2; rw [if_pos rfl, if_neg h, if_pos rfl]
      · rw [if_neg h2, if_neg h2]
theorem len_put (m : MapL) (i : Int) (v : Value) (h : getM m i = none) : (putM m i v).length = m.length + 1 := by
  induction m with
  | nil => rfl
  | cons p m ih =>
    obtain ⟨q, u⟩ := p
    simp only [getM] at h
    split at h
    · cases h
    · rename_i hq
      simp only [putM, if_neg hq, List.length_cons, ih h]
theorem getM_none {m : MapL} {i : Int} : getM m i = none ↔ i ∉ keysM m := by
  induction m with
  | nil => simp [getM, keysM]
  | cons p m ih =>
    obtain ⟨q, u⟩ := p
    simp only [getM, keysM, List.map_cons, List.mem_cons]
    by_cases h : q = i
    · simp [h]
    · rw [if_neg h, ih]
      simp only [keysM, not_or]
      exact ⟨fun hh => ⟨fun e => h e.symm, hh⟩, fun hh => hh.2⟩
theorem keys_put (m : MapL) (i : Int) (v : Value) : keysM (putM m i v) = if i ∈ keysM m then keysM m else keysM m ++ [i] := by
  induction m with
  | nil => simp [putM, keysM]
  | cons p m ih =>
    obtain ⟨q, u⟩ := p
    simp only [putM]
    by_cases h : q = i
    · subst h; simp [keysM]
    · rw [if_neg h]
      show q :: keysM (putM m i v) = if i ∈ q :: keysM m then q :: keysM m else (q :: keysM m) ++ [i]
      rw [ih]
      have hq : ¬ i = q := fun e => h e.symm
      by_cases h2 : i ∈ keysM m <;> simp [h2, hq]
theorem nodup_put {m : MapL} (h : (keysM m).Nodup) (i : Int) (v : Value) : (keysM (putM m i v)).Nodup := by
  rw [keys_put]
  split
  · exact h
  · rename_i hi
    rw [List.nodup_append]
    exact ⟨h, by simp, fun a ha b hb => by simp at hb; subst hb; intro e; subst e; exact hi ha⟩
theorem getM_del {m : MapL} (h : (keysM m).Nodup) (i j : Int) : getM (delM m i) j = if j = i then none else getM m j := by
  induction m with
  | nil => simp [delM, getM]
  | cons p m ih =>
    obtain ⟨q, u⟩ := p
    simp only [keysM, List.map_cons, List.nodup_cons] at h
    simp only [delM]
    by_cases hq : q = i
    · subst hq
      rw [if_pos rfl]
      by_cases hj : j = q
      · subst hj; rw [if_pos rfl]; exact getM_none.2 h.1
      · rw [if_neg hj]; simp only [getM]; rw [if_neg (fun e => hj e.symm)]
    · rw [if_neg hq]
      simp only [getM, ih h.2]
      by_cases h2 : q = j
      · subst h2; rw [if_pos rfl, if_neg hq, if_pos rfl]
      · rw [if_neg h2, if_neg h2]
theorem del_sub (m : MapL) (i : Int) : (keysM (delM m i)).Sublist (keysM m) := by
  induction m with
  | nil => exact .slnil
  | cons p m ih =>
    obtain ⟨q, u⟩ := p
    simp only [delM]
    by_cases h : q = i
    · rw [if_pos h]; exact List.sublist_cons_self _ _
    · rw [if_neg h]; exact ih.cons_cons _
theorem nodup_del {m : MapL} (h : (keysM m).Nodup) (i : Int) : (keysM (delM m i)).Nodup := h.sublist (del_sub m i)

/-- The entries of a map, read. -/
def kvE (e : MapEntry) : Value × Value := (e.key, e.val)
def kvL (p : Int × Value) : Value × Value := (.int .i64 p.1, p.2)

theorem find_none {i : Int} : ∀ {es : List MapEntry} {m : MapL} {p : Nat}, es.map kvE = m.map kvL → getM m i = none → Instr.findNow (.int .i64) (.int .i64 i) es p = some none
  | [], [], _, _, _ => rfl
  | [], _ :: _, _, h, _ => by cases h
  | _ :: _, [], _, h, _ => by cases h
  | e :: es, (j, u) :: m, p, h, hn => by
    simp only [List.map_cons, List.cons.injEq, kvE, kvL, Prod.mk.injEq] at h
    simp only [getM] at hn
    split at hn
    · cases hn
    · rename_i hj
      have hb : (i == j) = false := by rw [beq_eq_false_iff_ne]; exact fun e => hj e.symm
      simp only [Instr.findNow, h.1.1, Instr.sameNow, if_true, hb]
      exact find_none h.2 hn

theorem find_some {i : Int} {v : Value} : ∀ {es : List MapEntry} {m : MapL} {p : Nat}, es.map kvE = m.map kvL → getM m i = some v →
    ∃ q, Instr.findNow (.int .i64) (.int .i64 i) es p = some (some (p + q, v)) ∧ (∀ v', (es.modify q fun e => { e with key := .int .i64 i, val := v' }).map kvE = (putM m i v').map kvL) ∧ (es.eraseIdx q).map kvE = (delM m i).map kvL
  | [], [], _, _, hn => by cases hn
  | [], _ :: _, _, h, _ => by cases h
  | _ :: _, [], _, h, _ => by cases h
  | e :: es, (j, u) :: m, p, h, hn => by
    simp only [List.map_cons, List.cons.injEq, kvE, kvL, Prod.mk.injEq] at h
    simp only [getM] at hn
    by_cases hj : j = i
    · subst hj
      rw [if_pos rfl] at hn
      cases hn
      refine ⟨0, ?_, fun v' => ?_, ?_⟩
      · simp [Instr.findNow, h.1.1, Instr.sameNow, h.1.2]
      · simp only [putM, if_true, List.modify_zero_cons, List.map_cons, h.2]
        rfl
      · simp only [delM, if_true, List.eraseIdx_zero, List.tail_cons, h.2]
    · rw [if_neg hj] at hn
      have hb : (i == j) = false := by rw [beq_eq_false_iff_ne]; exact fun e => hj e.symm
      obtain ⟨q, h1, h2, h3⟩ := find_some (p := p + 1) h.2 hn
      refine ⟨q + 1, ?_, fun v' => ?_, ?_⟩
      · simp only [Instr.findNow, h.1.1, Instr.sameNow, if_true, hb, h1]
        rw [Nat.add_assoc, Nat.add_comm 1 q]
      · simp only [putM, if_neg hj, List.modify_succ_cons, List.map_cons, h2 v', kvE, kvL, h.1]
      · simp only [delM, if_neg hj, List.eraseIdx_cons_succ, List.map_cons, h3, kvE, kvL, h.1]

/-- A map from numbers. -/
def MapIs (w : World) (r : Nat) (m : MapL) : Prop := ∃ es n, mapOf? w r = some (es, n) ∧ es.toList.map kvE = m.map kvL ∧ (keysM m).Nodup

theorem MapIs.lt {w : World} {r : Nat} {m : MapL} (h : MapIs w r m) : r < w.heap.size := by
  obtain ⟨es, n, h, _⟩ := h; exact maps_lt h
theorem MapIs.keep {w w' : World} {F : Nat → Prop} {r : Nat} {m : MapL} (h : MapIs w r m) (hk : Keeps w w' F) (hn : ¬ F r) : MapIs w' r m := by
  obtain ⟨es, n, h, h2⟩ := h; exact ⟨es, n, hk.maps h hn, h2⟩
theorem MapIs.push (w : World) : MapIs (World.push w (.map #[] 0)) w.heap.size [] := ⟨#[], 0, by simp, rfl, by simp [keysM]⟩
theorem MapIs.nocells {w : World} {r : Nat} {m : MapL} (h : MapIs w r m) : cellsOf? w r = none := by
  obtain ⟨es, n, h, _⟩ := h
  have := mapOf?_spec h
  unfold cellsOf?; rw [this]

theorem lookup_map {w : World} {r : Nat} {m : MapL} {z : Value} {i : Int} {ok : Bool} (h : MapIs w r m) : lookupS .i64 z (.map (some r)) (.int .i64 i) ok w = .ret (match getM m i with
    | some v => if ok then .tuple #[v, .bool true] else v
    | none => if ok then .tuple #[z, .bool false] else z, w) := by
  obtain ⟨es, n, h, he, _⟩ := h
  cases hg : getM m i with
  | none => simp only [lookupS, if_true, h, find_none he hg]
  | some v =>
    obtain ⟨q, hq, _⟩ := find_some (p := 0) he hg
    simp only [lookupS, if_true, h, hq]

theorem len_map {w : World} {r : Nat} {m : MapL} (h : MapIs w r m) : lenMapS (.map (some r)) w = .ret (.int .i64 m.length, w) := by
  obtain ⟨es, n, h, he, _⟩ := h
  have := congrArg List.length he
  simp at this
  simp [lenMapS, h, this]

theorem update_map {w : World} {r : Nat} {m : MapL} {i : Int} {v : Value} (h : MapIs w r m) : ∃ es n, updateS .i64 (.map (some r)) (.int .i64 i) v w = .ret (undef, World.set w r (.map es n)) ∧ MapIs (World.set w r (.map es n)) r (putM m i v) := by
  have hlt := h.lt
  obtain ⟨es, n, h, he, hnd⟩ := h
  cases hg : getM m i with
  | none =>
    simp only [updateS, if_true, h, find_none he hg]
    refine ⟨_, _, rfl, _, _, by simp [hlt]; exact ⟨rfl, rfl⟩, ?_, nodup_put hnd i v⟩
    have : ∀ m : MapL, getM m i = none → putM m i v = m ++ [(i, v)] := by
      intro m
      induction m with
      | nil => intro _; rfl
      | cons p m ih =>
        obtain ⟨q, u⟩ := p
        intro hh
        simp only [getM] at hh
        split at hh
        · cases hh
        · rename_i hq
          simp only [putM, if_neg hq, ih hh]; rfl
    rw [this m hg]
    simp [he, kvE, kvL]
  | some u =>
    obtain ⟨q, hq, h2, _⟩ := find_some (p := 0) he hg
    simp only [updateS, if_true, h, hq]
    refine ⟨_, _, rfl, _, _, by simp [hlt]; exact ⟨rfl, rfl⟩, ?_, nodup_put hnd i v⟩
    rw [Array.toList_modify]
    exact h2 v

theorem delete_map {w : World} {r : Nat} {m : MapL} {i : Int} (h : MapIs w r m) : ∃ es n, deleteS .i64 (.map (some r)) (.int .i64 i) w = .ret (.tuple #[], World.set w r (.map es n)) ∧ MapIs (World.set w r (.map es n)) r (delM m i) := by
  have hlt := h.lt
  obtain ⟨es, n, h, he, hnd⟩ := h
  cases hg : getM m i with
  | none =>
    simp only [deleteS, if_true, h, find_none he hg]
    refine ⟨_, _, rfl, _, _, by simp [hlt]; exact ⟨rfl, rfl⟩, ?_, nodup_del hnd i⟩
    have : ∀ m : MapL, getM m i = none → delM m i = m := by
      intro m
      induction m with
      | nil => intro _; rfl
      | cons p m ih =>
        obtain ⟨q, u⟩ := p
        intro hh
        simp only [getM] at hh
        split at hh
        · cases hh
        · rename_i hq
          simp only [delM, if_neg hq, ih hh]
    rw [this m hg]
    exact he
  | some u =>
    obtain ⟨q, hq, _, h3⟩ := find_some (p := 0) he hg
    simp only [deleteS, if_true, h, hq]
    refine ⟨_, _, rfl, _, _, by simp [hlt]; exact ⟨rfl, rfl⟩, ?_, nodup_del hnd i⟩
    rw [Array.eraseIdxIfInBounds]
    split
    · simpa using h3
    · rename_i hz
      rw [← h3, List.eraseIdx_of_length_le (by simpa using hz)]

section
variable {X : Cx} {ρ : Env} {ds : List Deferred} {w : World} {k : List FI} {l : List GI} {g : List SG}
theorem update_go {d : Option Nat} {re : List SR} {r : Nat} {m : MapL} {i : Int} {v : Value} (h : MapIs w r m) (hk : ∀ es n, MapIs (World.set w r (.map es n)) r (putM m i v) → againA X re g l k (ρ.put d undef) ds (World.set w r (.map es n))) :
    valA X d re g l k (updateS .i64 (.map (some r)) (.int .i64 i) v w) ρ ds := by
  obtain ⟨es, n, he, hm⟩ := update_map (i := i) (v := v) h
  rw [he]
  exact hk es n hm
theorem delete_go {d : Option Nat} {re : List SR} {r : Nat} {m : MapL} {i : Int} (h : MapIs w r m) (hk : ∀ es n, MapIs (World.set w r (.map es n)) r (delM m i) → againA X re g l k (ρ.put d (.tuple #[])) ds (World.set w r (.map es n))) :
    valA X d re g l k (deleteS .i64 (.map (some r)) (.int .i64 i) w) ρ ds := by
  obtain ⟨es, n, he, hm⟩ := delete_map (i := i) h
  rw [he]
  exact hk es n hm

/-! ### A range over a function, from the front -/
def rangeQ (X : Cx) (k : List FI) (ρ : Env) (ds : List Deferred) (w : World) : Option Code → Prop
  | none => goN X k ρ ds w
  | some .ret => goR X k ρ ds w
  | some (.exit id) => goE X id k ρ ds w
  | _ => False
@[simp] theorem rangeQ_none : rangeQ X k ρ ds w none = goN X k ρ ds w := rfl
@[simp] theorem rangeQ_ret : rangeQ X k ρ ds w (some .ret) = goR X k ρ ds w := rfl
@[simp] theorem rangeQ_exit {id : Nat} : rangeQ X k ρ ds w (some (.exit id)) = goE X id k ρ ds w := rfl

structure RangeA (X : Cx) (t : Tmp) (ps : Array Tmp) (A B : Code) (k : List FI) (ρ : Env) (ds : List Deferred) (w : World) : Prop where
  h : codeR X (.rangeFunc (.tmp t) ps A B) k ρ ds w
@[simp] theorem codeR_range {t : Tmp} {ps : Array Tmp} {A B : Code} : codeR X (.rangeFunc (.tmp t) ps A B) k ρ ds w = RangeA X t ps A B k ρ ds w := propext ⟨fun h => ⟨h⟩, fun h => h.h⟩

theorem range_go {t : Tmp} {ps : Array Tmp} {A B : Code} {f : FuncId} {first captured : Array Value} (hro : X.ro = none) (ht : t < X.n) (hev : ρ t = .func (.func f) first captured)
    (hfi : first = #[]) (hb : (X.P.funcs[f]?).any (fun fn => fn.body.isSome && fn.name != "runtime.NumGoroutine") = true)
    (h : (X.K.enter f (#[.func (.yield (w.heap.size + 1)) #[] #[]] ++ captured)
      (World.push (World.push w (.deferred (some []))) (.loop ⟨.ready, none, X.fn, arr X.n ρ, ps, A, B, w.heap.size⟩))).all fun r =>
        ∃ x, r.2.heap[w.heap.size + 1]? = some (.loop x) ∧ x.state ≠ .busy ∧ rangeQ X k (Env.of (arr X.n ρ)) (⟨.collected w.heap.size, #[]⟩ :: ds) (World.set r.2 (w.heap.size + 1) (.loop { x with state := .exhausted })) x.pending) :
    RangeA X t ps A B k ρ ds w := by
  obtain ⟨P, K, fuel, fn, ro, n, Q⟩ := X
  simp only at hro
  subst hro
  constructor
  refine gc_range ht hev hfi hb (T.all_mono (fun r hr => ?_) h)
  obtain ⟨x, h1, h2, h3⟩ := hr
  refine ⟨x, h1, h2, ?_⟩
  revert h3
  generalize x.pending = p
  intro h3
  cases p with
  | none => exact h3
  | some c => cases c <;> first | exact h3 | exact h3.elim

@[simp] theorem of_set (a : Array Value) (i : Nat) (v : Value) (j : Nat) : Env.of (a.setIfInBounds i v) j = if i = j ∧ i < a.size then v else Env.of a j := by
  simp only [Env.of, Array.getD_eq_getD_getElem?, Array.getElem?_setIfInBounds]
  by_cases h : i = j
  · subst h
    by_cases h2 : i < a.size <;> simp [h2]
  · simp [h]
@[simp] theorem arr_size (n : Nat) (ρ : Env) : (arr n ρ).size = n := size_arr n ρ

theorem finPost_mark {P : Program} {res : List RS} {Q : Value → World → Prop} {r : Nat} {as : Array Value} (h : w.heap[r]? = some (.deferred (some []))) (hq : finPost P res Q .ret ρ ds (World.set w r (.deferred none))) : finPost P res Q .ret ρ (⟨.collected r, as⟩ :: ds) w :=
  ⟨.inr rfl, fin_mark h hq.2⟩
theorem finPost_mark_n {P : Program} {res : List RS} {Q : Value → World → Prop} {r : Nat} {as : Array Value} (h : w.heap[r]? = some (.deferred (some []))) (hq : finPost P res Q .normal ρ ds (World.set w r (.deferred none))) : finPost P res Q .normal ρ (⟨.collected r, as⟩ :: ds) w :=
  ⟨.inl rfl, fin_mark h hq.2⟩
end
end Go.Ideal
/-! From an ideal run with laid answers to a row; arguments that are slices of plain data. -/
namespace Go.Ideal
open Go Go.RowKit Go.ChangeShapes

/-- What the row asks, out of an ideal run with answers laid. -/
theorem calls_trueA {H : Type} {enc : TypeId × Value → H} {P : Program} {sp : Answers} {f : FuncId} {fn : Func} {s : ChangeSpec} {apart handsOn again : Bool} {W : World} {args argsI : Array Value} {ds gs : List (DataW H)} {before : List MemPlace} {tb : TypeId}
    (hm : P.follows .mixedOrders = true) (hsp : LaidA P sp) (hl : laidOutB P = true) (hpar : ∀ t ∈ fn.params.toList, P.readableRec t = true ∧ t < P.types.size) (hres : fn.resultTypes = #[tb]) (htb : P.underlying tb = some .bool) (hvars : s.vars = [])
    (hs : s.fn H ds = { results := [.lit (.bool true)], args := ds, vars := [] })
    (hW : DataW.Whole enc P fn.params.toList s.vars apart W args.toList ds gs before) {β : Beta} {σ : World} (hR : R P W.heap.size (Base.of W) β σ W) (ha : AR β argsI args) {m : Nat}
    (hQ : ((runA P sp m).enter f argsI σ).all fun x => x.1 = .bool true) : Calls P f args W fun e W' => ∃ v, e = .returned v ∧ s.post enc P fn apart true handsOn again W args v W' := by
  refine (calls_of_runA hm hsp hR ha hQ).mono fun e W' he => ?_
  cases e with
  | returned v' =>
    obtain ⟨β2, v, σ', _, hR', hv, hq⟩ := he
    simp only at hq
    subst hq
    cases hv
    exact ⟨_, rfl, post_true hl hpar hres htb hvars hs hW hR'.below⟩
  | panicked c => exact he.elim
  | outgrown => exact he.elim

def oneBeta (bi : BI) : Beta := fun b => if b = 0 then some bi else none
def oneWorld (o : Obj) : World := { (default : World) with heap := #[o] }

/-- A row of the world that the run began in, to be read. -/
theorem R.row {P : Program} {W : World} {r off n es : Nat} {c : Array Value} {te : TypeId} {fz : Nat × Nat} (hb : W.heap[r]? = some (.cells c te fz)) (hn : 0 < n) (hle : off + n ≤ c.size)
    (hp : ∀ (i : Nat) (v : Value), i < n → c[off + i]? = some v → selfD 4 v = true) (hi : ∀ i, P.info? te = some i → i.size = es) :
    R P W.heap.size (Base.of W) (oneBeta ⟨r, off, n, es, c.size⟩) (oneWorld (.cells (c.extract off (off + n)) te (0, n))) W := by
  have hat : ∀ (b : Nat) (o : Obj), (oneWorld (.cells (c.extract off (off + n)) te (0, n))).heap[b]? = some o → b = 0 ∧ o = .cells (c.extract off (off + n)) te (0, n) := fun b o h => by
    simp only [oneWorld] at h
    cases b with
    | zero => simp at h; exact ⟨rfl, h.symm⟩
    | succ b => simp at h
  have hnw : wr (.cells (c.extract off (off + n)) te (0, n)) = false := by
    simp only [wr]
    rw [beq_eq_false_iff_ne]
    intro h
    simp only [Prod.mk.injEq] at h
    omega
  refine { below := Below.refl _ _, held := (fun k hk => hk.elim), free := (fun _ _ _ _ _ _ h => h), size := Nat.le_refl _, dom := fun b bi h => ?_, cov := fun b h => ?_, obj := fun b o bi h hbi _ => ?_, dd := fun b o h hl => ?_, esz := fun b c' e' fz' bi h _ hbi i hinf => ?_, new := fun b o bi h _ hw => ?_, inj := fun b1 b2 o1 o2 bi1 bi2 h1 _ _ _ hw => ?_ }
  · simp only [oneBeta] at h
    split at h
    · rename_i h0; subst h0; simp [oneWorld]
    · cases h
  · have : b = 0 := by simp [oneWorld] at h; omega
    subst this
    exact ⟨_, rfl⟩
  · obtain ⟨rfl, rfl⟩ := hat b o h
    simp only [oneBeta, if_true, Option.some.injEq] at hbi
    subst hbi
    have hsz : (c.extract off (off + n)).size = n := by rw [Array.size_extract]; omega
    refine ⟨_, hb, OR.cells (fz := (0, n)) (bi := ⟨r, off, n, es, c.size⟩) hsz rfl hle (fun i v hv => ?_) (.inr ⟨rfl, hn, Nat.le_of_eq hsz⟩)⟩
    rw [Array.getElem?_extract] at hv
    split at hv
    · rename_i hlt
      have hin : i < n := by omega
      exact ⟨v, hv, selfVR _ 4 v (hp i v hin hv)⟩
    · cases hv
  · obtain ⟨rfl, rfl⟩ := hat b o h
    simp [live] at hl
  · obtain ⟨rfl, h2⟩ := hat b _ h
    simp only [oneBeta, if_true, Option.some.injEq] at hbi
    subst hbi
    simp only [Obj.cells.injEq] at h2
    obtain ⟨_, rfl, _⟩ := h2
    exact hi i hinf
  · obtain ⟨rfl, rfl⟩ := hat b o h
    rw [hnw] at hw; cases hw
  · obtain ⟨rfl, rfl⟩ := hat b1 o1 h1
    rw [hnw] at hw; cases hw

/-- A block that nothing reads. -/
theorem R.hole (P : Program) (W : World) (bi : BI) : R P W.heap.size (Base.of W) (oneBeta bi) (oneWorld dead) W := by
  have hat : ∀ (b : Nat) (o : Obj), (oneWorld dead).heap[b]? = some o → b = 0 ∧ o = dead := fun b o h => by
    simp only [oneWorld] at h
    cases b with
    | zero => simp at h; exact ⟨rfl, h.symm⟩
    | succ b => simp at h
  refine { below := Below.refl _ _, held := (fun k hk => hk.elim), free := (fun _ _ _ _ _ _ h => h), size := Nat.le_refl _, dom := fun b bi h => ?_, cov := fun b h => ?_, obj := fun b o bi h _ hl => ?_, dd := fun b o h _ => (hat b o h).2, esz := fun b c e fz bi h hl => ?_, new := fun b o bi h _ hw => ?_, inj := fun b1 b2 o1 o2 bi1 bi2 h _ _ _ hw => ?_ }
  · simp only [oneBeta] at h
    split at h
    · rename_i h0; subst h0; simp [oneWorld]
    · cases h
  · have : b = 0 := by simp [oneWorld] at h; omega
    subst this
    exact ⟨_, rfl⟩
  · rw [(hat b o h).2] at hl; cases hl
  · rw [(hat b _ h).2] at hl; cases hl
  · rw [(hat b o h).2] at hw; cases hw
  · rw [(hat b1 o1 h).2] at hw; cases hw

/-- A slice as it lies: so many elements of so many cells. -/
def Elems (w : World) (v : Value) (es : Nat) (xs : List (Array Value)) : Prop := ∃ vb vc, v = .slice vb xs.length vc ∧
  ∀ (i : Nat) (h : i < xs.length), ∃ b o c e fz, vb = some ⟨b, o, none⟩ ∧ cellsOf? w b = some (c, e, fz) ∧ o + i * es + es ≤ c.size ∧ c.extract (o + i * es) (o + i * es + es) = xs[i]

/-- A slice argument of plain elements. -/
theorem slice_start {H : Type} {enc : TypeId × Value → H} {P : Program} {W : World} {t te : TypeId} {es fuel : Nat} {v : Value} {x : DataW H × List MemPlace} (ht : P.underlying t = some (.slice te)) (hes : P.cellsOf te = es) (hpos : 0 < es)
    (hel : ∀ n cs y, DataW.trod enc P W 0 (fun _ => true) true n te cs = some y → cs.length = es ∧ ∀ v ∈ cs, selfD 4 v = true)
    (hok : Cell.okWide P W .any W.heap.size t v ∨ ∃ base, Cell.okWide P W .any base t v) (h : DataW.trod enc P W 0 (fun _ => true) true fuel t [v] = some x) :
    ∃ β σ vI xs, R P W.heap.size (Base.of W) β σ W ∧ VR β vI v ∧ Elems σ vI es xs ∧ ∀ c ∈ xs, ∃ n y, DataW.trod enc P W 0 (fun _ => true) true n te c.toList = some y := by
  rcases DataW.trod_slice ht h with ⟨hc, _⟩ | ⟨a, len, cap, elems, rest, n, _, hc, _, _, hle, hmax, hlen, hels, hrest, _⟩
  · simp only [List.cons.injEq, and_true] at hc
    subst hc
    exact ⟨fun _ => none, { (default : World) with heap := #[] }, .slice none 0 0, [], R.start P W _ rfl, .nilSlice, ⟨none, 0, rfl, fun i h => absurd h (Nat.not_lt_zero _)⟩, fun c hc => by cases hc⟩
  · simp only [List.cons.injEq, and_true] at hc
    subst hc
    rw [hes] at hels hrest
    have hspot : a.spot = none := by
      have : ∃ base, Cell.okWide P W .any base t (.slice (some a) len cap) := by rcases hok with h | h; exact ⟨_, h⟩; exact h
      obtain ⟨base, hk⟩ := this
      unfold Cell.okWide at hk
      rw [ht] at hk
      simp only [Cell.ok, ht] at hk
      exact hk.2.2.2.1
    obtain ⟨r, off, spot⟩ := a
    simp only at hspot
    subst hspot
    obtain ⟨hrl, hrest⟩ := hrest rfl
    -- each element's cells
    have hall : ∀ i, i < cap → ∃ cs y, W.cells? 0 ⟨r, off + i * es, none⟩ es = some cs ∧ DataW.trod enc P W 0 (fun _ => true) true n te cs = some y := by
      intro i hi
      by_cases hil : i < len
      · have h1 := hels i hil
        obtain ⟨y, hy⟩ : ∃ y, elems[i]? = some y := ⟨elems[i], List.getElem?_eq_getElem (by omega)⟩
        rw [hy] at h1
        obtain ⟨cs, h2, h3⟩ := Option.bind_eq_some_iff.1 h1
        rw [Addr.add_off] at h2
        exact ⟨cs, y, h2, h3⟩
      · have h1 := hrest (i - len) (by omega)
        obtain ⟨y, hy⟩ : ∃ y, rest[i - len]? = some y := ⟨rest[i - len], List.getElem?_eq_getElem (by omega)⟩
        rw [hy, show len + (i - len) = i by omega] at h1
        obtain ⟨cs, h2, h3⟩ := Option.bind_eq_some_iff.1 h1
        rw [Addr.add_off] at h2
        exact ⟨cs, y, h2, h3⟩
    have hcell : ∀ i, i < cap → ∀ cs, W.cells? 0 ⟨r, off + i * es, none⟩ es = some cs → cs.length = es ∧ ∀ j, j < es → W.cell? ⟨r, off + i * es + j, none⟩ = cs[j]? := by
      intro i hi cs h1
      obtain ⟨_, h3, h4⟩ := World.cells?_some h1
      exact ⟨h3, fun j hj => by rw [← h4 j hj, Addr.add_off]⟩
    by_cases hz : len = 0
    · subst hz
      refine ⟨oneBeta ⟨r, off, 0, es, off + cap * es⟩, oneWorld dead, .slice (some ⟨0, 0, none⟩) 0 (OPEN + 1), [], R.hole P W _, .slice (bi := ⟨r, off, 0, es, off + cap * es⟩) rfl (.inr (.inr ⟨Nat.lt_succ_self _, (Nat.zero_add off).symm, Nat.zero_le _⟩)), ⟨_, _, rfl, fun i h => absurd h (Nat.not_lt_zero _)⟩, fun c hc => by cases hc⟩
    · obtain ⟨cs0, y0, h01, _⟩ := hall 0 (by omega)
      obtain ⟨hl0, hc0⟩ := hcell 0 (by omega) cs0 h01
      have h00 := hc0 0 hpos
      rw [List.getElem?_eq_getElem (by omega)] at h00
      obtain ⟨c, e, fz, hb, _⟩ := cell?_eq_some.1 h00
      have hat : ∀ k, W.cell? ⟨r, k, none⟩ = c[k]? := fun k => by simp [World.cell?, hb]
      have hext : ∀ i, i < cap → ∃ cs y, c.extract (off + i * es) (off + i * es + es) = cs.toArray ∧ off + i * es + es ≤ c.size ∧ DataW.trod enc P W 0 (fun _ => true) true n te cs = some y := by
        intro i hi
        obtain ⟨cs, y, h1, h2⟩ := hall i hi
        obtain ⟨h3, h4⟩ := hcell i hi cs h1
        have hsz : off + i * es + es ≤ c.size := by
          have h5 := h4 (es - 1) (by omega)
          rw [hat, List.getElem?_eq_getElem (by omega)] at h5
          have := (Array.getElem?_eq_some_iff.1 h5).1
          omega
        refine ⟨cs, y, ?_, hsz, h2⟩
        apply Array.ext_getElem?
        intro j
        rw [Array.getElem?_extract]
        by_cases hj : j < es
        · rw [if_pos (by omega), ← hat, h4 j hj]; simp
        · rw [if_neg (by omega)]; simp [h3]; omega
      have htot : off + cap * es ≤ c.size := by
        obtain ⟨_, _, _, h5, _⟩ := hext (cap - 1) (by omega)
        have : cap * es = (cap - 1) * es + es := by rw [← Nat.succ_mul]; congr 1; omega
        omega
      have hlt : len * es ≤ cap * es := Nat.mul_le_mul_right _ hle
      have hplain : ∀ (i : Nat) (v : Value), i < len * es → c[off + i]? = some v → selfD 4 v = true := by
        intro i v hi hv
        have hq : i / es < len := Nat.div_lt_of_lt_mul (by rw [Nat.mul_comm]; exact hi)
        obtain ⟨cs, y, h1, _, h3⟩ := hext (i / es) (by omega)
        obtain ⟨h4, h5⟩ := hel n cs y h3
        have hm : i / es * es + i % es = i := by rw [Nat.mul_comm]; exact Nat.div_add_mod i es
        have hmod := Nat.mod_lt i hpos
        have hg : (c.extract (off + i / es * es) (off + i / es * es + es))[i % es]? = some v := by
          rw [Array.getElem?_extract, if_pos (by omega), show off + i / es * es + i % es = off + i by omega]; exact hv
        rw [h1] at hg
        exact h5 v (by have := Array.mem_of_getElem? hg; simpa using this)
      have hR := R.row (n := len * es) (es := ((P.info? e).map (·.size)).getD 0) hb (Nat.mul_pos (by omega) hpos) (by omega) hplain (fun i hi => by rw [hi]; rfl)
      refine ⟨_, _, .slice (some ⟨0, 0, none⟩) len (OPEN + 1), (List.range len).map fun i => c.extract (off + i * es) (off + i * es + es), hR, .slice (bi := ⟨r, off, len * es, _, c.size⟩) rfl (.inr (.inr ⟨Nat.lt_succ_self _, (Nat.zero_add off).symm, hle⟩)), ⟨some ⟨0, 0, none⟩, OPEN + 1, by simp, fun i hi => ?_⟩, fun c' hc' => ?_⟩
      · have hil : i < len := by simpa using hi
        have h6 : (i + 1) * es ≤ len * es := Nat.mul_le_mul_right _ hil
        rw [Nat.succ_mul] at h6
        refine ⟨0, 0, _, e, (0, len * es), rfl, rfl, by simp; omega, ?_⟩
        simp only [List.getElem_map, List.getElem_range]
        apply Array.ext_getElem?
        intro j
        rw [Array.getElem?_extract, Array.getElem?_extract, Array.getElem?_extract, Array.size_extract]
        by_cases hj : j < es
        · rw [if_pos (by omega), if_pos (by omega), if_pos (by omega)]
          congr 1; omega
        · rw [if_neg (by omega), if_neg (by omega)]
      · obtain ⟨i, hi, rfl⟩ := List.mem_map.1 hc'
        have hil := List.mem_range.1 hi
        obtain ⟨cs, y, h1, _, h3⟩ := hext i (by omega)
        exact ⟨n, y, by rw [h1]; exact h3⟩
end Go.Ideal
