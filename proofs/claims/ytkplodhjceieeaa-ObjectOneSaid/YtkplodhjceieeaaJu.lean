/-
  More words for reckoning: an element of a map, first laid, then stored.
-/
import Derived.Test.YtkplodhjceieeaaJt
namespace Go.Ideal
open Go

/-- An element that was laid: what is stored there makes the map 'putM m i'. -/
def Ent (w : World) (r : Nat) (m : MapL) (i st : Int) : Prop := ∃ es n q e, mapOf? w r = some (es, n) ∧ (∀ v, (es.toList.modify q fun e => { e with key := .int .i64 i, val := v }).map kvE = (putM m i v).map kvL) ∧
  (keysM m).Nodup ∧ (es.toList.map (·.born)).Nodup ∧ (∀ e ∈ es.toList, e.born < n) ∧ es.toList[q]? = some e ∧ e.key = .int .i64 i ∧ (e.born : Int) = st

theorem Ent.keep {w w' : World} {F : Nat → Prop} {r : Nat} {m : MapL} {i st : Int} (h : Ent w r m i st) (hk : Keeps w w' F) (hn : ¬ F r) : Ent w' r m i st := by
  obtain ⟨es, n, q, e, h, h2⟩ := h; exact ⟨es, n, q, e, hk.maps h hn, h2⟩
theorem Ent.lt {w : World} {r : Nat} {m : MapL} {i st : Int} (h : Ent w r m i st) : r < w.heap.size := by
  obtain ⟨es, n, q, e, h, _⟩ := h
  exact (Array.getElem?_eq_some_iff.1 (mapOf?_spec h)).1
theorem Ent.nocells {w : World} {r : Nat} {m : MapL} {i st : Int} (h : Ent w r m i st) : cellsOf? w r = none := by
  obtain ⟨es, n, q, e, h, _⟩ := h
  have := mapOf?_spec h
  simp [cellsOf?, this]

theorem modify_last (e : MapEntry) (f : MapEntry → MapEntry) : ∀ l : List MapEntry, (l ++ [e]).modify l.length f = l ++ [f e]
  | [] => rfl
  | a :: l => by
    rw [List.cons_append, List.length_cons, List.modify_succ_cons, modify_last e f l, List.cons_append]
theorem modify_twice (l : List MapEntry) (q : Nat) (k v : Value) : ((l.modify q fun e => { e with key := k }).modify q fun e => { e with key := k, val := v }) = l.modify q fun e => { e with key := k, val := v } := by
  apply List.ext_getElem?
  intro i
  simp only [List.getElem?_modify]
  cases l[i]? with
  | none => rfl
  | some e => by_cases h : q = i <;> simp [h]
theorem born_modify' (l : List MapEntry) (q : Nat) (k : Value) : (l.modify q fun e => { e with key := k }).map (·.born) = l.map (·.born) := by
  apply List.ext_getElem?
  intro i
  simp only [List.getElem?_map, List.getElem?_modify]
  cases l[i]? with
  | none => rfl
  | some e => simp only [Option.map_some]; split <;> rfl
theorem modify_same (l : List MapEntry) (q : Nat) (e : MapEntry) (k v : Value) (h : l[q]? = some e) (hk : e.key = k) : (l.modify q fun e => { e with val := v }) = l.modify q fun e => { e with key := k, val := v } := by
  apply List.ext_getElem?
  intro i
  simp only [List.getElem?_modify]
  by_cases hi : q = i
  · subst hi; simp [h, ← hk]
  · simp [hi]

section
variable {P : Program} {K : Kont} {w : World} {Q : Value × World → Prop} {ρ : Env}

theorem mapEntry_go {t kt et : TypeId} {x kx : Operand} {ty : TypeId} {inf : TypeInfo} {z : Value} {r : Nat} {m : MapL} {i : Int} (hu : P.underlying t = some (.map kt et)) (hk : P.underlying kt = some (.int .i64)) (hi : P.info? et = some inf) (hz : inf.zero = some z) (hs : selfD 4 z = true)
    (hx : ev ρ x = .map (some r)) (hkx : ev ρ kx = n64 i) (hc : constFit x = true) (hck : constFit kx = true) (h : MapAt w r m)
    (hq : ∀ es n st v, Ent (World.set w r (.map es n)) r m i st → Q (.tuple #[v, n64 st], World.set w r (.map es n))) : (sone P K (ev ρ) w (.raw (.mapEntry t x kx) ty)).all Q := by
  have hlt := h.lt
  obtain ⟨es, n, h1, h2, h3, h4, h5⟩ := id h
  have hm := mapOf?_spec h1
  have hops : ((Op.mapEntry t x kx).operands.all constFit) = true := by simp [Op.operands, hc, hck]
  have hkt : keyTy P t = true := by unfold keyTy isInt; rw [hu]; simp only [hk]
  have hel : elemOk P t = true := by unfold elemOk zeroOk; simp only [hu, hi, hz, hs]
  have hkf : keyFit (n64 i) = true := rfl
  cases hg : getM m i with
  | none =>
    have hf := run_findKey_int (w := w) hk (find_none h2 hg)
    have hrun : (Instr.mapEntry t (.map (some r)) (n64 i)).run P w = .ok (.tuple #[z, goInt n]) (World.set w r (.map (es.push { key := n64 i, val := z, born := n }) (n + 1))) := by
      simp only [Instr.mapEntry, Sem.run_bind, run_underlying' hu, Result.andThen, run_checkKey_int hk, hf, getObj, Sem.run, hm, run_setObj_map hm, run_zero hi hz]
      rfl
    simp only [sone, pstep, istep, hops, if_true, execOp, hx, hkx, hkf, hel, hkt, Bool.and_self]
    refine pv_all hrun (hq _ _ (n : Int) _ ⟨es.push { key := n64 i, val := z, born := n }, n + 1, es.size, { key := n64 i, val := z, born := n }, by simp [hlt], fun v => ?_, h3, ?_, fun e he => ?_, by simp, rfl, rfl⟩)
    · rw [Array.toList_push, show es.size = es.toList.length by simp, modify_last, put_new hg]
      simp [h2, kvE, kvL]
    · rw [Array.toList_push, List.map_append, List.nodup_append]
      refine ⟨h4, by simp, fun a ha b hb' => ?_⟩
      simp at hb'
      subst hb'
      obtain ⟨e, hm, rfl⟩ := List.mem_map.1 ha
      exact Nat.ne_of_lt (h5 e hm)
    · rw [Array.toList_push, List.mem_append] at he
      rcases he with he | he
      · exact Nat.lt_succ_of_lt (h5 e he)
      · simp at he; subst he; exact Nat.lt_succ_self _
  | some u =>
    obtain ⟨q, hfq, hput, _⟩ := find_some (p := 0) h2 hg
    rw [Nat.zero_add] at hfq
    have hf := run_findKey_int (w := w) hk hfq
    obtain ⟨en, _, hen, hkey, _⟩ := findNow_key (.int .i64) (k := n64 i) rfl es.toList 0 q u hfq
    rw [Nat.sub_zero] at hen
    have hen' : es[q]? = some en := by simpa using hen
    have hks : (Instr.keyThatStays (n64 i) (n64 i)).run P w = .ok (n64 i) w := by
      unfold Instr.keyThatStays
      rw [if_pos (by simp [Instr.sameBits])]
      rfl
    have hrun : (Instr.mapEntry t (.map (some r)) (n64 i)).run P w = .ok (.tuple #[u, goInt en.born]) (World.set w r (.map (es.modify q fun e => { e with key := n64 i }) n)) := by
      simp only [Instr.mapEntry, Sem.run_bind, run_underlying' hu, Result.andThen, run_checkKey_int hk, hf, getObj, Sem.run, hm, hen', Option.map_some, Option.getD_some, hkey, hks, run_setObj_map hm]
      rfl
    simp only [sone, pstep, istep, hops, if_true, execOp, hx, hkx, hkf, hel, hkt, Bool.and_self]
    refine pv_all hrun (hq _ _ (en.born : Int) _ ⟨es.modify q fun e => { e with key := n64 i }, n, q, { en with key := n64 i }, by simp [hlt], fun v => ?_, h3, ?_, fun e he => ?_, ?_, rfl, rfl⟩)
    · rw [Array.toList_modify, modify_twice]; exact hput v
    · rw [Array.toList_modify, born_modify']; exact h4
    · have hm2 : e.born ∈ (((es.modify q fun e => { e with key := n64 i }).toList).map (·.born)) := List.mem_map_of_mem he
      rw [Array.toList_modify, born_modify'] at hm2
      obtain ⟨e', he', hee⟩ := List.mem_map.1 hm2
      rw [← hee]; exact h5 e' he'
    · rw [Array.toList_modify, List.getElem?_modify]; simp [hen]

theorem entryStore_go {t : TypeId} {x s vx : Operand} {ty : TypeId} {r : Nat} {m : MapL} {i st : Int} {v : Value} (hx : ev ρ x = .map (some r)) (hst : ev ρ s = n64 st) (hv : ev ρ vx = v) (hc : constFit x = true) (hcs : constFit s = true) (hcv : constFit vx = true) (h : Ent w r m i st)
    (hq : ∀ es n, MapAt (World.set w r (.map es n)) r (putM m i v) → Q (undef, World.set w r (.map es n))) : (sone P K (ev ρ) w (.raw (.entryStore t x s vx) ty)).all Q := by
  have hlt := h.lt
  obtain ⟨es, n, q, e, h1, h2, h3, h4, h5, h6, h7, h8⟩ := id h
  have hm := mapOf?_spec h1
  have hops : ((Op.entryStore t x s vx).operands.all constFit) = true := by simp [Op.operands, hc, hcs, hcv]
  have hq6 : q < es.size := by
    have := (List.getElem?_eq_some_iff.1 h6).1
    simpa using this
  have hfind : es.findIdx? (fun e' => (e'.born : Int) == st) = some q := by
    rw [Array.findIdx?_eq_some_iff_getElem]
    have hq7 : es[q] = e := by
      have := (List.getElem?_eq_some_iff.1 h6).2
      simpa using this
    refine ⟨hq6, by rw [hq7]; simp [h8], fun j hj => ?_⟩
    have hne : es[j].born ≠ es[q].born := fun hh => by
      have : j = q := (List.getElem_inj (h₀ := by rw [List.length_map]; simp; omega) (h₁ := by rw [List.length_map]; simpa using hq6) h4).1 (by simpa using hh)
      omega
    rw [hq7] at hne
    simp only [beq_iff_eq]
    omega
  have hrun : (Instr.entryStore t (.map (some r)) (n64 st) v).run P w = .ok () (World.set w r (.map (es.modify q fun e => { e with val := v }) n)) := by
    simp only [Instr.entryStore, Sem.run_bind, Result.andThen, getObj, Sem.run, hm, asInt, asIntOf, Sem.run_pure, hfind, run_setObj_map hm]
  simp only [sone, pstep, istep, hops, if_true, execOp, hx, hst, hv]
  refine pu_all hrun (hq _ _ ⟨_, _, by simp [hlt]; exact ⟨rfl, rfl⟩, ?_, nodup_put h3 i v, ?_, fun e' he => ?_⟩)
  · rw [Array.toList_modify, modify_same _ _ _ _ _ h6 h7]; exact h2 v
  · rw [Array.toList_modify, modify_same _ _ _ _ _ h6 h7, born_modify]; exact h4
  · have hm2 : e'.born ∈ (((es.modify q fun e => { e with val := v }).toList).map (·.born)) := List.mem_map_of_mem he
    rw [Array.toList_modify, modify_same _ _ _ _ _ h6 h7, born_modify] at hm2
    obtain ⟨e2, he2, hee⟩ := List.mem_map.1 hm2
    rw [← hee]; exact h5 e2 he2
end
end Go.Ideal
