/-
  More words for reckoning: rows made at once; ranges over maps; nil.
-/
import Derived.Test.YteljibbnpheekaaGreatJr
namespace Go.Ideal
open Go
abbrev pt (b : Nat) : Value := .pointer (some ⟨b, 0, none⟩)
abbrev n64 (n : Int) : Value := .int .i64 n
@[simp] theorem parts_nil' (ρ : Regs) : partsOf ρ [] = [] := rfl
@[simp] theorem parts_cons' (ρ : Regs) (p : Nat × Operand) (l : List (Nat × Operand)) : partsOf ρ (p :: l) = (p.1, ρ p.2) :: partsOf ρ l := rfl
@[simp] theorem put_nil' (c : Array Value) (o : Nat) : putCells c o [] = c := rfl
@[simp] theorem put_cons' (c : Array Value) (o : Nat) (v : Value) (l : List Value) : putCells c o (v :: l) = putCells (c.setIfInBounds o v) (o + 1) l := rfl
@[simp] theorem store_at' {n b o : Nat} {x : Value} {w : World} : storeS n (.pointer (some ⟨b, o, none⟩)) x w = match cellsOf? w b with
    | some (c, e, (0, 0)) => if x.cells.size = n ∧ o + n ≤ c.size ∧ x.cells.toList.all one1 = true then .ret (undef, World.set w b (.cells (putCells c o x.cells.toList) e)) else .bad
    | _ => .bad := rfl
@[simp] theorem one1_slice' (a : Option Addr) (l c : Nat) : one1 (.slice a l c) = true := rfl
@[simp] theorem one1_int' (k : IntKind) (n : Int) : one1 (.int k n) = true := rfl
@[simp] theorem one1_bool' (b : Bool) : one1 (.bool b) = true := rfl
@[simp] theorem one1_ptr' (a : Option Addr) : one1 (.pointer a) = true := rfl
@[simp] theorem one1_map' (a : Option Nat) : one1 (.map a) = true := rfl
@[simp] theorem lookup_nil' {k : IntKind} {z : Value} {i : Int} {ok : Bool} {w : World} : lookupS k z (.map none) (.int k i) ok w = .ret (if ok then .tuple #[z, .bool false] else z, w) := by simp [lookupS]
theorem row1 (te : TypeId) (n : Int) (w : World) : rowS te 1 1 #[.int .i64 0] [(0, .int .i64 n)] w = .ret (.slice (some ⟨w.heap.size, 0, none⟩) 1 1, World.push w (.cells #[.int .i64 n] te)) := rfl
theorem src_int {te : TypeId} {w : World} {r : Nat} {n : Int} {c : TypeId} (h : cellsOf? w r = some (#[.int .i64 n], c, (0, 0))) : SrcE (EInt te) w (.slice (some ⟨r, 0, none⟩) 1 1) [n] :=
  .inr ⟨r, 0, 1, _, c, (0, 0), rfl, h, by simp [EInt], by simp [EInt, flat]⟩
theorem nilEq {P : Program} {t : TypeId} {o1 o2 : Operand} {p : Option Addr} {w : World} (hu : P.underlying t = some (.pointer (P.pointee t))) (he : eqTy P 5 t = true) : binS P .eql t o1 o2 (.pointer p) (.pointer none) w = .ret (.bool p.isNone, w) := by
  have hf : binFit P .eql t (.pointer p) (.pointer none) = true := by cases p <;> simp [binFit, he, eqFit]
  unfold binS
  simp only [hf, if_true]
  rw [eqGuard_none _ _ _ _ _ _ (fun _ h => by cases h) (fun h => by cases h)]
  simp only [Sem.run_bind, Sem.run_pure, Result.andThen, run_eql_pointer_nil w t p hu, ofRun]
section
variable {P : Program} {K : Kont} {w : World} {Q : Value × World → Prop} {ρ : Env}
theorem run_zero {t : TypeId} {i : TypeInfo} {z : Value} (hi : P.info? t = some i) (hz : i.zero = some z) (w : World) : (zeroValue t).run P w = .ok z w := by
  simp [zeroValue, typeInfo, program, Sem.run, hi, hz, Result.andThen]
end
def MapAt (w : World) (r : Nat) (m : MapL) : Prop := ∃ es n, mapOf? w r = some (es, n) ∧ es.toList.map kvE = m.map kvL ∧ (keysM m).Nodup ∧ (es.toList.map (·.born)).Nodup ∧ ∀ e ∈ es.toList, e.born < n
theorem MapAt.is {w : World} {r : Nat} {m : MapL} (h : MapAt w r m) : MapIs w r m := by
  obtain ⟨es, n, h1, h2, h3, _⟩ := h; exact ⟨es, n, h1, h2, h3⟩
theorem MapAt.lt {w : World} {r : Nat} {m : MapL} (h : MapAt w r m) : r < w.heap.size := h.is.lt
theorem MapAt.nodup {w : World} {r : Nat} {m : MapL} (h : MapAt w r m) : (keysM m).Nodup := by obtain ⟨_, _, _, _, h, _⟩ := h; exact h
theorem MapAt.keep {w w' : World} {F : Nat → Prop} {r : Nat} {m : MapL} (h : MapAt w r m) (hk : Keeps w w' F) (hn : ¬ F r) : MapAt w' r m := by
  obtain ⟨es, n, h, h2⟩ := h; exact ⟨es, n, hk.maps h hn, h2⟩
theorem MapAt.push (w : World) : MapAt (World.push w (.map #[] 0)) w.heap.size [] := ⟨#[], 0, by simp, rfl, by simp [keysM], by simp, by simp⟩
theorem MapAt.nocells {w : World} {r : Nat} {m : MapL} (h : MapAt w r m) : cellsOf? w r = none := h.is.nocells
theorem put_new : ∀ {m : MapL} {i : Int} {v : Value}, getM m i = none → putM m i v = m ++ [(i, v)]
  | [], _, _, _ => rfl
  | (q, u) :: m, i, v, hh => by
    simp only [getM] at hh
    split at hh
    · cases hh
    · rename_i hq
      simp only [putM, if_neg hq, put_new hh]; rfl
theorem born_modify (l : List MapEntry) (q : Nat) (k v : Value) : (l.modify q fun e => { e with key := k, val := v }).map (·.born) = l.map (·.born) := by
  apply List.ext_getElem?
  intro i
  simp only [List.getElem?_map, List.getElem?_modify]
  cases l[i]? with
  | none => rfl
  | some e => simp only [Option.map_some]; split <;> rfl
theorem update_at {w : World} {r : Nat} {m : MapL} {i : Int} {v : Value} (h : MapAt w r m) : ∃ es n, updateS .i64 (.map (some r)) (.int .i64 i) v w = .ret (undef, World.set w r (.map es n)) ∧ MapAt (World.set w r (.map es n)) r (putM m i v) := by
  have hlt := h.lt
  obtain ⟨es, n, h, he, hnd, hb, hbl⟩ := h
  cases hg : getM m i with
  | none =>
    simp only [updateS, if_true, h, find_none he hg]
    refine ⟨_, _, rfl, _, _, by simp [hlt]; exact ⟨rfl, rfl⟩, ?_, nodup_put hnd i v, ?_, ?_⟩
    · rw [put_new hg]
      simp [he, kvE, kvL]
    · rw [Array.toList_push, List.map_append, List.nodup_append]
      refine ⟨hb, by simp, fun a ha b hb' => ?_⟩
      simp at hb'
      subst hb'
      obtain ⟨e, hm, rfl⟩ := List.mem_map.1 ha
      exact Nat.ne_of_lt (hbl e hm)
    · intro e hm
      rw [Array.toList_push, List.mem_append] at hm
      rcases hm with hm | hm
      · exact Nat.lt_succ_of_lt (hbl e hm)
      · simp at hm; subst hm; exact Nat.lt_succ_self _
  | some u =>
    obtain ⟨q, hq, h2, _⟩ := find_some (p := 0) he hg
    rw [Nat.zero_add] at hq
    simp only [updateS, if_true, h, hq]
    refine ⟨_, _, rfl, _, _, by simp [hlt]; exact ⟨rfl, rfl⟩, ?_, nodup_put hnd i v, ?_, ?_⟩
    · rw [Array.toList_modify]
      exact h2 v
    · rw [Array.toList_modify, born_modify]; exact hb
    · intro e hm
      have hm2 : e.born ∈ (((es.modify q fun e => { e with key := .int .i64 i, val := v }).toList).map (·.born)) := List.mem_map_of_mem hm
      rw [Array.toList_modify, born_modify] at hm2
      obtain ⟨e', he', hee⟩ := List.mem_map.1 hm2
      rw [← hee]; exact hbl e' he'
section
variable {X : Cx} {ρ : Env} {ds : List Deferred} {w : World} {k : List FI} {l : List GI} {g : List SG}
theorem updateA {d : Option Nat} {re : List SR} {r : Nat} {m : MapL} {i : Int} {v : Value} (h : MapAt w r m) (hk : ∀ es n, MapAt (World.set w r (.map es n)) r (putM m i v) → againA X re g l k (ρ.put d undef) ds (World.set w r (.map es n))) :
    valA X d re g l k (updateS .i64 (.map (some r)) (.int .i64 i) v w) ρ ds := by
  obtain ⟨es, n, he, hm⟩ := update_at (i := i) (v := v) h
  rw [he]
  exact hk es n hm
end
structure Iter (w : World) (it r : Nat) (m : MapL) (done : List Int) : Prop where
  ex : ∃ es n seen, mapOf? w r = some (es, n) ∧ es.toList.map kvE = m.map kvL ∧ (keysM m).Nodup ∧ (es.toList.map (·.born)).Nodup ∧ (∀ e ∈ es.toList, e.born < n) ∧ w.heap[it]? = some (.mapIter (some r) n seen n) ∧
    (∀ e ∈ es.toList, ∀ k, e.key = .int .i64 k → (seen.contains e.born = true ↔ k ∈ done)) ∧ (∀ k, done.getLast? = some k → ∃ e ∈ es.toList, e.key = .int .i64 k ∧ seen.back? = some e.born) ∧ (done = [] → seen = #[])
  nodup : done.Nodup
  sub : ∀ k ∈ done, k ∈ keysM m
theorem Iter.at {w : World} {it r : Nat} {m : MapL} {done : List Int} (h : Iter w it r m done) : MapAt w r m := by
  obtain ⟨⟨es, n, seen, h1, h2, h3, h4, h5, _⟩, _⟩ := h; exact ⟨es, n, h1, h2, h3, h4, h5⟩
theorem Iter.lt {w : World} {it r : Nat} {m : MapL} {done : List Int} (h : Iter w it r m done) : it < w.heap.size := by
  obtain ⟨⟨es, n, seen, _, _, _, _, _, h, _⟩, _⟩ := h; exact (Array.getElem?_eq_some_iff.1 h).1
theorem Iter.keep {w w' : World} {F : Nat → Prop} {it r : Nat} {m : MapL} {done : List Int} (h : Iter w it r m done) (hk : Keeps w w' F) (hn : ¬ F r) (hi : ¬ F it) : Iter w' it r m done := by
  obtain ⟨⟨es, n, seen, h1, h2, h3, h4, h5, h6, h7⟩, h8, h9⟩ := h
  exact ⟨⟨es, n, seen, hk.maps h1 hn, h2, h3, h4, h5, hk.at h6 hi, h7⟩, h8, h9⟩
theorem key_of {es : List MapEntry} {m : MapL} (h : es.map kvE = m.map kvL) {e : MapEntry} (he : e ∈ es) : ∃ k v, (k, v) ∈ m ∧ e.key = .int .i64 k ∧ e.val = v := by
  have := List.mem_map_of_mem (f := kvE) he
  rw [h] at this
  obtain ⟨⟨k, v⟩, hm, hh⟩ := List.mem_map.1 this
  simp only [kvL, kvE, Prod.mk.injEq] at hh
  exact ⟨k, v, hm, hh.1.symm, hh.2.symm⟩
theorem get_of : ∀ {m : MapL}, (keysM m).Nodup → ∀ {k : Int} {v : Value}, (k, v) ∈ m → getM m k = some v
  | [], _, _, _, h => by cases h
  | (q, u) :: m, hn, k, v, h => by
    simp only [keysM, List.map_cons, List.nodup_cons] at hn
    rcases List.mem_cons.1 h with h | h
    · simp only [Prod.mk.injEq] at h
      obtain ⟨rfl, rfl⟩ := h
      simp [getM]
    · have : q ≠ k := fun e => by subst e; exact hn.1 (List.mem_map.2 ⟨_, h, rfl⟩)
      simp only [getM, if_neg this]
      exact get_of hn.2 h
theorem entry_of {es : List MapEntry} {m : MapL} (h : es.map kvE = m.map kvL) {k : Int} (hk : k ∈ keysM m) : ∃ e ∈ es, e.key = .int .i64 k := by
  obtain ⟨⟨q, v⟩, hm, rfl⟩ := List.mem_map.1 hk
  have := List.mem_map_of_mem (f := kvL) hm
  rw [← h] at this
  obtain ⟨e, he, hh⟩ := List.mem_map.1 this
  simp only [kvL, kvE, Prod.mk.injEq] at hh
  exact ⟨e, he, hh.1⟩
theorem key_inj {es : List MapEntry} {m : MapL} (h : es.map kvE = m.map kvL) (hn : (keysM m).Nodup) {e e' : MapEntry} (he : e ∈ es) (he' : e' ∈ es) {k : Int} (h1 : e.key = .int .i64 k) (h2 : e'.key = .int .i64 k) : e.born = e'.born ∨ ¬ (es.map (·.born)).Nodup ∨ e = e' := by
  obtain ⟨i, hi, rfl⟩ := List.getElem_of_mem he
  obtain ⟨j, hj, rfl⟩ := List.getElem_of_mem he'
  have hlen : es.length = m.length := by simpa using congrArg List.length h
  have hat : ∀ (i : Nat) (hi : i < es.length), es[i].key = .int .i64 (m[i]'(by omega)).1 := by
    intro i hi
    have := congrArg (fun l => l[i]?) h
    simp only [List.getElem?_map, List.getElem?_eq_getElem hi, List.getElem?_eq_getElem (show i < m.length by omega), Option.map_some, Option.some.injEq, kvE, kvL, Prod.mk.injEq] at this
    exact this.1
  rw [hat i hi] at h1
  rw [hat j hj] at h2
  simp only [Value.int.injEq, true_and] at h1 h2
  have hij : i = j := by
    have hki : (keysM m)[i]'(by simp [keysM]; omega) = k := by simp [keysM, h1]
    have hkj : (keysM m)[j]'(by simp [keysM]; omega) = k := by simp [keysM, h2]
    exact (List.getElem_inj hn).1 (hki.trans hkj.symm)
  subst hij
  exact .inr (.inr rfl)
theorem mrange_go {P : Program} {K : Kont} {w : World} {Q : Value × World → Prop} {ρ : Env} {t kt et : TypeId} {x : Operand} {ty : TypeId} {r : Nat} {m : MapL} (hu : P.underlying t = some (.map kt et)) (hx : ev ρ x = .map (some r)) (hc : constFit x = true) (h : MapAt w r m)
    (hq : ∀ o, Iter (World.push w o) w.heap.size r m [] → cellsOf? (World.push w o) w.heap.size = none → Keeps w (World.push w o) (fun _ => False) → Q (.pointer (some ⟨w.heap.size, 0, none⟩), World.push w o)) : (sone P K (ev ρ) w (.raw (.range t x) ty)).all Q := by
  obtain ⟨es, n, h1, h2, h3, h4, h5⟩ := id h
  have hm := mapOf?_spec h1
  have hops : ((Op.range t x).operands.all constFit) = true := by simp [Op.operands, hc]
  have hrun : (execOp (ev ρ) { dst := none, op := .range t x, type := ty, pos := "", after := #[], guard := none }).run P w = .ok (.value (.pointer (some ⟨w.heap.size, 0, none⟩))) (World.push w (.mapIter (some r) n #[] n)) := by
    simp [execOp, Instr.range, Sem.run_bind, run_underlying' hu, Result.andThen, hx, getObj, Sem.run, hm, World.push]
  simp only [sone, pstep, istep, hops, if_true, hrun, ofRun, pval, T.bind]
  refine hq (.mapIter (some r) n #[] n) ⟨⟨es, n, #[], ?_, h2, h3, h4, h5, by rw [at_push, if_pos rfl], fun e _ k _ => by simp, fun k hk => by simp at hk, fun _ => rfl⟩, by simp, fun k hk => by cases hk⟩ ?_ (Keeps.push _ _ _)
  · exact (Keeps.push w _ (fun _ => False)).maps h1 (fun h => h)
  · unfold cellsOf?; rw [at_push, if_pos rfl]
theorem next_go {P : Program} {K : Kont} {w : World} {Q : Value × World → Prop} {ρ : Env} {x : Operand} {ty : TypeId} {it r : Nat} {m : MapL} {done : List Int} (hx : ev ρ x = pt it) (hc : constFit x = true) (h : Iter w it r m done)
    (hend : (∀ k ∈ keysM m, k ∈ done) → Q (.tuple #[.bool false], w))
    (hgo : ∀ k v w', getM m k = some v → k ∉ done → Iter w' it r m (done ++ [k]) → Keeps w w' (fun j => j = it) → Q (.tuple #[.bool true, n64 k, v], w')) : (sone P K (ev ρ) w (.raw (.next x false) ty)).all Q := by
  obtain ⟨⟨es, n, seen, h1, h2, h3, h4, h5, h6, h7, h8, h9⟩, hnd, hsub⟩ := id h
  have hm := mapOf?_spec h1
  have hops : ((Op.next x false).operands.all constFit) = true := by simp [Op.operands, hc]
  have hl : (es.filter fun e => !seen.contains e.born).filter (fun e => decide (e.born < n)) = es.filter fun e => !seen.contains e.born := by
    rw [Array.filter_eq_self]
    intro e he
    have : e ∈ es := (Array.mem_filter.1 he).1
    simpa using h5 e (by simpa using this)
  have hnw : (es.filter fun e => !seen.contains e.born).filter (fun e => decide (e.born ≥ n)) = #[] := by
    rw [Array.filter_eq_empty_iff]
    intro e he
    have : e ∈ es := (Array.mem_filter.1 he).1
    have := h5 e (by simpa using this)
    simp; omega
  have hbad : (!seen.isEmpty && !es.isEmpty && es.all (fun e => decide (e.born ≥ n))) = false := by
    cases hes : es.isEmpty with
    | true => simp
    | false =>
      have : (es.all fun e => decide (e.born ≥ n)) = false := by
        rw [Bool.eq_false_iff]
        intro hall
        rw [Array.all_eq_true] at hall
        have hsz : 0 < es.size := by
          rw [Array.isEmpty_eq_false_iff] at hes
          exact Array.size_pos_iff.2 hes
        have := hall 0 hsz
        have h50 := h5 es[0] (by simp)
        simp at this
        omega
      rw [this]; simp
  have hinext : (inext P (pt it) false ty w).all Q := by
    unfold inext
    simp only [h6, hm]
    rw [if_neg (by rw [hbad]; exact Bool.false_ne_true)]
    simp only [hl, hnw, Array.append_empty]
    by_cases hem : (es.filter fun e => !seen.contains e.born) = #[]
    · simp only [hem]
      refine ⟨by simp, fun i hi => ?_⟩
      have : i = 0 := by simpa using hi
      subst this
      have hq0 : Q (.tuple #[.bool false], w) := by
       refine hend (fun k hk => ?_)
       obtain ⟨e, he, hek⟩ := entry_of h2 hk
       have hc2 : seen.contains e.born = true := by
         cases hcc : seen.contains e.born with
         | true => rfl
         | false =>
           have : e ∈ es.filter fun e => !seen.contains e.born := Array.mem_filter.2 ⟨by simpa using he, by rw [hcc]; rfl⟩
           rw [hem] at this
           simp at this
       exact (h7 e he k hek).1 hc2
      simpa using hq0
    · have hne : (es.filter fun e => !seen.contains e.born).isEmpty = false := by rw [Array.isEmpty_eq_false_iff]; exact hem
      simp only [hne, Bool.false_eq_true, if_false, Array.empty_append]
      refine ⟨by simpa using Array.size_pos_iff.2 hem, fun i hi => ?_⟩
      have hi' : i < (es.filter fun e => !seen.contains e.born).size := by simpa using hi
      simp only [Array.getElem?_map, Array.getElem?_eq_getElem hi', Option.map_some]
      generalize he : (es.filter fun e => !seen.contains e.born)[i] = e
      have hmem : e ∈ es.filter fun e => !seen.contains e.born := by rw [← he]; exact Array.getElem_mem hi'
      obtain ⟨hme, hns⟩ := Array.mem_filter.1 hmem
      have hme' : e ∈ es.toList := by simpa using hme
      have hns' : seen.contains e.born = false := by simpa using hns
      obtain ⟨k, v, hkv, hk, hv⟩ := key_of h2 hme'
      have hget := get_of h3 hkv
      have hkn : k ∉ done := fun hd => by
        have := (h7 e hme' k hk).2 hd
        rw [hns'] at this; cases this
      have hlt := (Array.getElem?_eq_some_iff.1 h6).1
      have hne2 : r ≠ it := fun e2 => by
        subst e2
        rw [hm] at h6; cases h6
      have hks : Keeps w (World.set w it (.mapIter (some r) n (seen.push e.born) n)) (fun j => j = it) := Keeps.set _ _ _ (fun _ => rfl)
      have := hgo k v (World.set w it (.mapIter (some r) n (seen.push e.born) n)) hget hkn ⟨⟨es, n, seen.push e.born, hks.maps h1 hne2, h2, h3, h4, h5, by rw [at_set, if_pos ⟨rfl, hlt⟩], ?_, ?_, ?_⟩, ?_, ?_⟩ hks
      · rw [hk, hv]; exact this
      · intro e' he' k' hk'
        rw [Array.contains_push, Bool.or_eq_true, h7 e' he' k' hk', List.mem_append, List.mem_singleton]
        constructor
        · rintro (h | h)
          · exact .inl h
          · have hb : e'.born = e.born := by simpa using h
            have heq : e' = e := by
              obtain ⟨i1, g1, rfl⟩ := List.getElem_of_mem he'
              obtain ⟨i2, g2, rfl⟩ := List.getElem_of_mem hme'
              have := (List.getElem_inj (h₀ := by simpa using g1) (h₁ := by simpa using g2) h4).1 (by simpa using hb)
              subst this; rfl
            rw [heq, hk] at hk'
            simp only [Value.int.injEq, true_and] at hk'
            exact .inr hk'.symm
        · rintro (h | h)
          · exact .inl h
          · subst h
            rcases key_inj h2 h3 he' hme' hk' hk with h | h | h
            · exact .inr (by simp [h])
            · exact absurd h4 h
            · exact .inr (by simp [h])
      · intro k' hk'
        rw [List.getLast?_append] at hk'
        simp at hk'
        subst hk'
        exact ⟨e, hme', hk, by simp⟩
      · intro h0; simp at h0
      · rw [List.nodup_append]
        exact ⟨hnd, by simp, fun a ha b hb => by simp at hb; intro e; rw [e, hb] at ha; exact hkn ha⟩
      · intro k' hk'
        rcases List.mem_append.1 hk' with h | h
        · exact hsub k' h
        · simp at h; rw [h]
          exact List.mem_map.2 ⟨(k, v), hkv, rfl⟩
  simp only [sone, pstep, istep, hops, if_true, hx]
  unfold pval
  refine T.all_bind.2 (T.all_bind.2 (T.all_mono (fun p hp => ?_) hinext))
  exact hp
end Go.Ideal
