/-
  Maps from numbers, read as lists.
-/
import Derived.Test.YteljibbnpheekaaGreatJj
import Derived.Test.YteljibbnpheekaaGreatIx
namespace Go.Ideal
open Go
abbrev MapL := List (Int × Value)
def getM : MapL → Int → Option Value
  | [], _ => none
  | (j, u) :: m, i => if j = i then some u else getM m i
def putM : MapL → Int → Value → MapL
  | [], i, v => [(i, v)]
  | (j, u) :: m, i, v => if j = i then (i, v) :: m else (j, u) :: putM m i v
def delM : MapL → Int → MapL
  | [], _ => []
  | (j, u) :: m, i => if j = i then m else (j, u) :: delM m i
def keysM (m : MapL) : List Int := m.map (·.1)
theorem keys_put (m : MapL) (i : Int) (v : Value) : keysM (putM m i v) = if i ∈ keysM m then keysM m else keysM m ++ [i] := by
  induction m with
  | nil => simp [putM, keysM]
  | cons p m ih =>
    obtain ⟨q, u⟩ := p
    simp only [putM]
    by_cases h : q = i
    · subst h; simp [keysM]
    · rw [if_neg h]
      show q :: keysM (putM m i v) = if i ∈ q :: keysM m then q :: keysM m else (q :: keysM m) ++ [i]
      rw [ih]
      have hq : ¬ i = q := fun e => h e.symm
      by_cases h2 : i ∈ keysM m <;> simp [h2, hq]
theorem nodup_put {m : MapL} (h : (keysM m).Nodup) (i : Int) (v : Value) : (keysM (putM m i v)).Nodup := by
  rw [keys_put]
  split
  · exact h
  · rename_i hi
    rw [List.nodup_append]
    exact ⟨h, by simp, fun a ha b hb => by simp at hb; subst hb; intro e; subst e; exact hi ha⟩
def kvE (e : MapEntry) : Value × Value := (e.key, e.val)
def kvL (p : Int × Value) : Value × Value := (.int .i64 p.1, p.2)
theorem find_none {i : Int} : ∀ {es : List MapEntry} {m : MapL} {p : Nat}, es.map kvE = m.map kvL → getM m i = none → Instr.findNow (.int .i64) (.int .i64 i) es p = some none
  | [], [], _, _, _ => rfl
  | [], _ :: _, _, h, _ => by cases h
  | _ :: _, [], _, h, _ => by cases h
  | e :: es, (j, u) :: m, p, h, hn => by
    simp only [List.map_cons, List.cons.injEq, kvE, kvL, Prod.mk.injEq] at h
    simp only [getM] at hn
    split at hn
    · cases hn
    · rename_i hj
      have hb : (i == j) = false := by rw [beq_eq_false_iff_ne]; exact fun e => hj e.symm
      simp only [Instr.findNow, h.1.1, Instr.sameNow, if_true, hb]
      exact find_none h.2 hn
theorem find_some {i : Int} {v : Value} : ∀ {es : List MapEntry} {m : MapL} {p : Nat}, es.map kvE = m.map kvL → getM m i = some v →
    ∃ q, Instr.findNow (.int .i64) (.int .i64 i) es p = some (some (p + q, v)) ∧ (∀ v', (es.modify q fun e => { e with key := .int .i64 i, val := v' }).map kvE = (putM m i v').map kvL) ∧ (es.eraseIdx q).map kvE = (delM m i).map kvL
  | [], [], _, _, hn => by cases hn
  | [], _ :: _, _, h, _ => by cases h
  | _ :: _, [], _, h, _ => by cases h
  | e :: es, (j, u) :: m, p, h, hn => by
    simp only [List.map_cons, List.cons.injEq, kvE, kvL, Prod.mk.injEq] at h
    simp only [getM] at hn
    by_cases hj : j = i
    · subst hj
      rw [if_pos rfl] at hn
      cases hn
      refine ⟨0, ?_, fun v' => ?_, ?_⟩
      · simp [Instr.findNow, h.1.1, Instr.sameNow, h.1.2]
      · simp only [putM, if_true, List.modify_zero_cons, List.map_cons, h.2]
        rfl
      · simp only [delM, if_true, List.eraseIdx_zero, List.tail_cons, h.2]
    · rw [if_neg hj] at hn
      have hb : (i == j) = false := by rw [beq_eq_false_iff_ne]; exact fun e => hj e.symm
      obtain ⟨q, h1, h2, h3⟩ := find_some (p := p + 1) h.2 hn
      refine ⟨q + 1, ?_, fun v' => ?_, ?_⟩
      · simp only [Instr.findNow, h.1.1, Instr.sameNow, if_true, hb, h1]
        rw [Nat.add_assoc, Nat.add_comm 1 q]
      · simp only [putM, if_neg hj, List.modify_succ_cons, List.map_cons, h2 v', kvE, kvL, h.1]
      · simp only [delM, if_neg hj, List.eraseIdx_cons_succ, List.map_cons, h3, kvE, kvL, h.1]
def MapIs (w : World) (r : Nat) (m : MapL) : Prop := ∃ es n, mapOf? w r = some (es, n) ∧ es.toList.map kvE = m.map kvL ∧ (keysM m).Nodup
theorem MapIs.lt {w : World} {r : Nat} {m : MapL} (h : MapIs w r m) : r < w.heap.size := by
  obtain ⟨es, n, h, _⟩ := h; exact maps_lt h
theorem MapIs.keep {w w' : World} {F : Nat → Prop} {r : Nat} {m : MapL} (h : MapIs w r m) (hk : Keeps w w' F) (hn : ¬ F r) : MapIs w' r m := by
  obtain ⟨es, n, h, h2⟩ := h; exact ⟨es, n, hk.maps h hn, h2⟩
theorem MapIs.push (w : World) : MapIs (World.push w (.map #[] 0)) w.heap.size [] := ⟨#[], 0, by simp, rfl, by simp [keysM]⟩
theorem MapIs.nocells {w : World} {r : Nat} {m : MapL} (h : MapIs w r m) : cellsOf? w r = none := by
  obtain ⟨es, n, h, _⟩ := h
  have := mapOf?_spec h
  unfold cellsOf?; rw [this]
theorem lookup_map {w : World} {r : Nat} {m : MapL} {z : Value} {i : Int} {ok : Bool} (h : MapIs w r m) : lookupS .i64 z (.map (some r)) (.int .i64 i) ok w = .ret (match getM m i with
    | some v => if ok then .tuple #[v, .bool true] else v
    | none => if ok then .tuple #[z, .bool false] else z, w) := by
  obtain ⟨es, n, h, he, _⟩ := h
  cases hg : getM m i with
  | none => simp only [lookupS, if_true, h, find_none he hg]
  | some v =>
    obtain ⟨q, hq, _⟩ := find_some (p := 0) he hg
    simp only [lookupS, if_true, h, hq]
theorem len_map {w : World} {r : Nat} {m : MapL} (h : MapIs w r m) : lenMapS (.map (some r)) w = .ret (.int .i64 m.length, w) := by
  obtain ⟨es, n, h, he, _⟩ := h
  have := congrArg List.length he
  simp at this
  simp [lenMapS, h, this]
section
variable {X : Cx} {ρ : Env} {ds : List Deferred} {w : World} {k : List FI} {l : List GI} {g : List SG}
def rangeQ (X : Cx) (k : List FI) (ρ : Env) (ds : List Deferred) (w : World) : Option Code → Prop
  | none => goN X k ρ ds w
  | some .ret => goR X k ρ ds w
  | some (.exit id) => goE X id k ρ ds w
  | _ => False
@[simp] theorem rangeQ_none : rangeQ X k ρ ds w none = goN X k ρ ds w := rfl
@[simp] theorem rangeQ_ret : rangeQ X k ρ ds w (some .ret) = goR X k ρ ds w := rfl
@[simp] theorem rangeQ_exit {id : Nat} : rangeQ X k ρ ds w (some (.exit id)) = goE X id k ρ ds w := rfl
structure RangeA (X : Cx) (t : Tmp) (ps : Array Tmp) (A B : Code) (k : List FI) (ρ : Env) (ds : List Deferred) (w : World) : Prop where
  h : codeR X (.rangeFunc (.tmp t) ps A B) k ρ ds w
@[simp] theorem codeR_range {t : Tmp} {ps : Array Tmp} {A B : Code} : codeR X (.rangeFunc (.tmp t) ps A B) k ρ ds w = RangeA X t ps A B k ρ ds w := propext ⟨fun h => ⟨h⟩, fun h => h.h⟩
@[simp] theorem of_set (a : Array Value) (i : Nat) (v : Value) (j : Nat) : Env.of (a.setIfInBounds i v) j = if i = j ∧ i < a.size then v else Env.of a j := by
  simp only [Env.of, Array.getD_eq_getD_getElem?, Array.getElem?_setIfInBounds]
  by_cases h : i = j
  · subst h
    by_cases h2 : i < a.size <;> simp [h2]
  · simp [h]
@[simp] theorem arr_size (n : Nat) (ρ : Env) : (arr n ρ).size = n := size_arr n ρ
end
end Go.Ideal
namespace Go.Ideal
open Go Go.RowKit Go.ChangeShapes
def oneBeta (bi : BI) : Beta := fun b => if b = 0 then some bi else none
def oneWorld (o : Obj) : World := { (default : World) with heap := #[o] }
theorem R.row {P : Program} {W : World} {r off n es : Nat} {c : Array Value} {te : TypeId} {fz : Nat × Nat} (hb : W.heap[r]? = some (.cells c te fz)) (hn : 0 < n) (hle : off + n ≤ c.size)
    (hp : ∀ (i : Nat) (v : Value), i < n → c[off + i]? = some v → selfD 4 v = true) (hi : ∀ i, P.info? te = some i → i.size = es) :
    R P W.heap.size (Base.of W) (oneBeta ⟨r, off, n, es, c.size⟩) (oneWorld (.cells (c.extract off (off + n)) te (0, n))) W := by
  have hat : ∀ (b : Nat) (o : Obj), (oneWorld (.cells (c.extract off (off + n)) te (0, n))).heap[b]? = some o → b = 0 ∧ o = .cells (c.extract off (off + n)) te (0, n) := fun b o h => by
    simp only [oneWorld] at h
    cases b with
    | zero => simp at h; exact ⟨rfl, h.symm⟩
    | succ b => simp at h
  have hnw : wr (.cells (c.extract off (off + n)) te (0, n)) = false := by
    simp only [wr]
    rw [beq_eq_false_iff_ne]
    intro h
    simp only [Prod.mk.injEq] at h
    omega
  refine { below := Below.refl _ _, held := (fun k hk => hk.elim), free := (fun _ _ _ _ _ _ h => h), size := Nat.le_refl _, dom := fun b bi h => ?_, cov := fun b h => ?_, obj := fun b o bi h hbi _ => ?_, dd := fun b o h hl => ?_, esz := fun b c' e' fz' bi h _ hbi i hinf => ?_, new := fun b o bi h _ hw => ?_, inj := fun b1 b2 o1 o2 bi1 bi2 h1 _ _ _ hw => ?_ }
  · simp only [oneBeta] at h
    split at h
    · rename_i h0; subst h0; simp [oneWorld]
    · cases h
  · have : b = 0 := by simp [oneWorld] at h; omega
    subst this
    exact ⟨_, rfl⟩
  · obtain ⟨rfl, rfl⟩ := hat b o h
    simp only [oneBeta, if_true, Option.some.injEq] at hbi
    subst hbi
    have hsz : (c.extract off (off + n)).size = n := by rw [Array.size_extract]; omega
    refine ⟨_, hb, OR.cells (fz := (0, n)) (bi := ⟨r, off, n, es, c.size⟩) hsz rfl hle (fun i v hv => ?_) (.inr ⟨rfl, hn, Nat.le_of_eq hsz⟩)⟩
    rw [Array.getElem?_extract] at hv
    split at hv
    · rename_i hlt
      have hin : i < n := by omega
      exact ⟨v, hv, selfVR _ 4 v (hp i v hin hv)⟩
    · cases hv
  · obtain ⟨rfl, rfl⟩ := hat b o h
    simp [live] at hl
  · obtain ⟨rfl, h2⟩ := hat b _ h
    simp only [oneBeta, if_true, Option.some.injEq] at hbi
    subst hbi
    simp only [Obj.cells.injEq] at h2
    obtain ⟨_, rfl, _⟩ := h2
    exact hi i hinf
  · obtain ⟨rfl, rfl⟩ := hat b o h
    rw [hnw] at hw; cases hw
  · obtain ⟨rfl, rfl⟩ := hat b1 o1 h1
    rw [hnw] at hw; cases hw
end Go.Ideal
