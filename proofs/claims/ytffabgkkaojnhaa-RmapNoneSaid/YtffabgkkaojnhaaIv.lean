/-
  Regions that draw their order: whatever the order, what the plan comes to.
-/
import Derived.Test.YtffabgkkaojnhaaIu
namespace Go.Ideal
open Go
section
variable {P : Program} {B : Nat} {w0 : World} {ops : Array Oper}

theorem getD_set_self {L : Array Bool} {i : Nat} (h : i < L.size) (d : Bool) : (L.setIfInBounds i true).getD i d = true := by
  rw [Array.getD_eq_getD_getElem?, Array.getElem?_setIfInBounds]
  simp [h]

theorem getD_set_mono {L : Array Bool} {i j : Nat} (h : L.getD j false = true) : (L.setIfInBounds i true).getD j false = true := by
  by_cases e : i = j
  · subst e
    refine getD_set_self ?_ _
    rcases Nat.lt_or_ge i L.size with h' | h'
    · exact h'
    · rw [Array.getD_eq_getD_getElem?, Array.getElem?_eq_none h'] at h; cases h
  · rw [getD_set_ne false e]; exact h

theorem getD_set_or {L : Array Bool} {i j : Nat} (h : (L.setIfInBounds i true).getD j false = true) : j = i ∨ L.getD j false = true := by
  by_cases e : i = j
  · exact .inl e.symm
  · rw [getD_set_ne false e] at h; exact .inr h

theorem takeWhile_new {done : List Nat} {i r : Nat} (h : i ≠ r) : (i :: done).takeWhile (· != r) = i :: done.takeWhile (· != r) := by
  rw [List.takeWhile_cons, if_pos (by simpa using h)]

theorem eval_of_slots {a a' : Act} {o : Oper} (h : ∀ t ∈ o.looksAt ops, a.tmps[t]? = a'.tmps[t]?) : ∀ x ∈ o.op.operands, a.eval x = a'.eval x := by
  intro x hx
  cases x with
  | tmp t =>
    have := h t (List.mem_append_left _ (List.mem_filterMap.2 ⟨.tmp t, by simpa using hx, rfl⟩))
    simp only [Act.eval, Array.getD_eq_getD_getElem?, this]
  | _ => rfl

theorem wanted_of_slots {a a' : Act} {o : Oper} (h : ∀ t ∈ o.looksAt ops, a.tmps[t]? = a'.tmps[t]?) : Region.wanted o (yielded ops a.tmps) = Region.wanted o (yielded ops a'.tmps) := by
  unfold Region.wanted
  cases hg : o.guard with
  | none => rfl
  | some gw =>
    obtain ⟨g, want⟩ := gw
    simp only
    unfold yielded
    cases hd : (ops[g]?).bind (·.dst) with
    | none => rfl
    | some d =>
      simp only [Option.bind_some]
      rw [h d (by simp [Oper.looksAt, hg, hd])]

variable {done acted : List Nat} {L : Array Bool} {ps : List Item} {β : Beta} {σ w : World} {aI aR : Act}

theorem Inv.hasAll (h : Inv P B w0 ops done L ps β σ w aI aR) : Has β ps := fun it hi => (h.item it hi).has

theorem Inv.inDone (h : Inv P B w0 ops done L ps β σ w aI aR) {it : Item} (hi : it ∈ ps) : it.i ∈ done := (h.mem _).2 (.inr ⟨it, hi, rfl⟩)

/-- One more pends. -/
theorem Inv.push (h : Inv P B w0 ops done L ps β σ w aI aR) {i : Nat} {re : List Nat} {rest : Plan} {o : Oper} {v : Value} (hs : Step ops i re rest done acted o) (ha : acts o.op = false)
    (hv : Val P ops σ ⟨i, o, aI, v⟩) (hh : ∃ v', VR β v v') : Inv P B w0 ops (i :: done) L (ps ++ [⟨i, o, aI, v⟩]) β σ w (aI.put o.dst v) aR where
  rel := h.rel
  size := h.size
  item := by
    intro it hi
    rw [List.mem_append, List.mem_singleton] at hi
    rcases hi with hi | rfl
    · have ok := h.item it hi
      have hne : i ≠ it.i := fun e => hs.fresh (e ▸ h.inDone hi)
      refine ⟨ok.op, ok.still, ok.val, fun t ht => ?_, ok.has⟩
      rw [takeWhile_new hne] at ht
      have h0 := ht i (by simp)
      rw [Array.getD_eq_getD_getElem?, hs.op] at h0
      rw [put_get_ne (d := o.dst) aI v h0]
      exact ok.keeps t fun j hj => ht j (by simp [hj])
    · exact ⟨hs.op, ha, hv, fun t _ => rfl, hh⟩
  run := RunP.push h.run
  pair := by
    rw [List.pairwise_append]
    refine ⟨h.pair, List.pairwise_singleton _ _, fun p hp q hq => ?_⟩
    rw [List.mem_singleton] at hq
    subst hq
    rcases hs.apart p.i (h.inDone hp) with g | g
    · exact .inl g
    · rw [Array.getD_eq_getD_getElem?, (h.item p hp).op] at g
      exact .inr g
  nodup := by
    rw [List.map_append, List.nodup_append]
    refine ⟨h.nodup, by simp, fun a ha b hb => ?_⟩
    simp only [List.map_cons, List.map_nil, List.mem_singleton] at hb
    subst hb
    rintro rfl
    obtain ⟨it, hit, e⟩ := List.mem_map.1 ha
    exact hs.fresh (e ▸ h.inDone hit)
  off := by
    intro it hi
    rw [List.mem_append, List.mem_singleton] at hi
    rcases hi with hi | rfl
    · exact h.off it hi
    · cases hL : L.getD i false with
      | false => rfl
      | true => exact absurd ((h.mem i).2 (.inl hL)) hs.fresh
  mem := by
    intro k
    rw [List.mem_cons, h.mem k]
    constructor
    · rintro (rfl | hk | ⟨it, hi, e⟩)
      · exact .inr ⟨_, List.mem_append_right _ (List.mem_singleton.2 rfl), rfl⟩
      · exact .inl hk
      · exact .inr ⟨it, List.mem_append_left _ hi, e⟩
    · rintro (hk | ⟨it, hi, e⟩)
      · exact .inr (.inl hk)
      · rw [List.mem_append, List.mem_singleton] at hi
        rcases hi with hi | rfl
        · exact .inr (.inr ⟨it, hi, e⟩)
        · exact .inl e.symm
  down := h.down

/-- One that pends is run. -/
theorem Inv.take {ps1 ps2 : List Item} {it : Item} (h : Inv P B w0 ops done L (ps1 ++ it :: ps2) β σ w aI aR) {v' : Value}
    (hw : ∀ e ∈ it.o.after, Region.binds .any e = true → L.getD e.on false = true) (hrun : RunP ops (ps1 ++ ps2) β (aR.put it.o.dst v') aI) :
    Inv P B w0 ops done (L.setIfInBounds it.i true) (ps1 ++ ps2) β σ w aI (aR.put it.o.dst v') := by
  have hsub : ∀ x ∈ ps1 ++ ps2, x ∈ ps1 ++ it :: ps2 := fun x hx => by
    rw [List.mem_append] at hx ⊢
    exact hx.imp id (List.mem_cons_of_mem _)
  have hsl : (ps1 ++ ps2).Sublist (ps1 ++ it :: ps2) := List.Sublist.append_left (List.sublist_cons_self _ _) _
  have hit : it ∈ ps1 ++ it :: ps2 := by simp
  have hlt : it.i < L.size := by rw [h.size]; exact (Array.getElem?_eq_some_iff.1 (h.item it hit).op).1
  have hnd : ∀ x ∈ ps1 ++ ps2, x.i ≠ it.i := by
    have h0 := h.nodup
    rw [List.map_append, List.map_cons, List.nodup_append] at h0
    obtain ⟨_, h2, h3⟩ := h0
    rw [List.nodup_cons] at h2
    intro x hx e
    rw [List.mem_append] at hx
    rcases hx with hx | hx
    · exact h3 x.i (List.mem_map.2 ⟨x, hx, rfl⟩) it.i (by simp) e
    · exact h2.1 (e ▸ List.mem_map.2 ⟨x, hx, rfl⟩)
  refine ⟨h.rel, by simp [h.size], fun x hx => h.item x (hsub x hx), hrun, h.pair.sublist hsl, h.nodup.sublist (hsl.map _), fun x hx => ?_, fun k => ?_, fun k o hk ho e he hb => ?_⟩
  · rw [getD_set_ne false (fun e => hnd x hx e.symm)]
    exact h.off x (hsub x hx)
  · rw [h.mem k]
    constructor
    · rintro (hk | ⟨x, hx, e⟩)
      · exact .inl (getD_set_mono hk)
      · by_cases hki : x = it
        · subst hki; subst e; exact .inl (getD_set_self hlt _)
        · refine .inr ⟨x, ?_, e⟩
          rw [List.mem_append, List.mem_cons] at hx
          rw [List.mem_append]
          rcases hx with hx | hx | hx
          · exact .inl hx
          · exact absurd hx hki
          · exact .inr hx
    · rintro (hk | ⟨x, hx, e⟩)
      · rcases getD_set_or hk with rfl | hk
        · exact .inr ⟨it, hit, rfl⟩
        · exact .inl hk
      · exact .inr ⟨x, hsub x hx, e⟩
  · rcases getD_set_or hk with rfl | hk
    · rw [(h.item it hit).op] at ho
      simp only [Option.some.injEq] at ho
      subst ho
      exact getD_set_mono (hw e he hb)
    · exact getD_set_mono (h.down k o hk ho e he hb)

/-- One that acts is run. -/
theorem Inv.act (h : Inv P B w0 ops done L ps β σ w aI aR) {i : Nat} {re : List Nat} {rest : Plan} {o : Oper} {v v' : Value} {β2 : Beta} {σ' w' : World} (hs : Step ops i re rest done acted o) (ha : acts o.op = true)
    (hw : ∀ e ∈ o.after, Region.binds .any e = true → L.getD e.on false = true) (hap : ∀ p ∈ ps, ((waitsFor ops).getD i 0).testBit p.i = false) (hle : β.le β2) (hR : R P B w0 β2 σ' w') (hv : VR β2 v v')
    (hre : recheck P ops (aI.put o.dst v) σ' re = true) : Inv P B w0 ops (i :: done) (L.setIfInBounds i true) ps β2 σ' w' (aI.put o.dst v) (aR.put o.dst v') := by
  have hlt : i < L.size := by rw [h.size]; exact (Array.getElem?_eq_some_iff.1 hs.op).1
  have hne : ∀ p ∈ ps, i ≠ p.i := fun p hp e => hs.fresh (e ▸ h.inDone hp)
  have hapart : ∀ p ∈ ps, p.o.apart ops o = true := fun p hp => by
    rcases hs.apart p.i (h.inDone hp) with g | g
    · rw [hap p hp] at g; cases g
    · rw [Array.getD_eq_getD_getElem?, (h.item p hp).op] at g; exact g
  have hrun : RunP ops ps β2 (aR.put o.dst v') (aI.put o.dst v) := RunP.act (fun p hp => by
    obtain ⟨h1, h2, h3⟩ := Oper.apart_spec (hapart p hp)
    exact ⟨h3, fun x hx hx' => h2 x hx' hx⟩) hv (h.run.mono hle)
  have hkeeps : ∀ it ∈ ps, ∀ t, (∀ j ∈ (i :: done).takeWhile (· != it.i), (ops.getD j default).dst ≠ some t) → (it.A.put it.o.dst it.v).tmps[t]? = (aI.put o.dst v).tmps[t]? := by
    intro it hi t ht
    rw [takeWhile_new (hne it hi)] at ht
    have h0 := ht i (by simp)
    rw [Array.getD_eq_getD_getElem?, hs.op] at h0
    rw [put_get_ne (d := o.dst) aI v h0]
    exact (h.item it hi).keeps t fun j hj => ht j (by simp [hj])
  refine ⟨hR, by simp [h.size], fun it hi => ?_, hrun, h.pair, h.nodup, fun it hi => ?_, fun k => ?_, fun k o' hk ho e he hb => ?_⟩
  · have ok := h.item it hi
    refine ⟨ok.op, ok.still, ?_, hkeeps it hi, let ⟨v', hv⟩ := ok.has; ⟨v', hv.mono hle⟩⟩
    rcases ok.val with ⟨hwt, ⟨hrd, hst⟩ | hpure⟩ | hnot
    · have hop : ops.getD it.i default = it.o := by rw [Array.getD_eq_getD_getElem?, ok.op]; rfl
      rcases hs.again ha it.i (h.inDone hi) with g | g | ⟨g1, g2, g3⟩
      · rw [hap it hi] at g; cases g
      · rw [hop, hrd] at g; cases g
      · rw [hop] at g2 g3
        rw [← takeWhile_new (hne it hi)] at g3
        have hlook : ∀ t ∈ it.o.looksAt ops, (aI.put o.dst v).tmps[t]? = it.A.tmps[t]? := fun t ht => by
          rw [← hkeeps it hi t (fun j hj e => (g3 j hj t e).2 ht)]
          exact put_get_ne _ _ (fun e => g2 t e ht)
        have hdst : ∀ d, it.o.dst = some d → (it.A.put it.o.dst it.v).tmps[d]? = (aI.put o.dst v).tmps[d]? := fun d hd =>
          hkeeps it hi d (fun j hj e => (g3 j hj d e).1 hd)
        have hw2 : Region.wanted it.o (yielded ops (aI.put o.dst v).tmps) = true := by rw [wanted_of_slots hlook]; exact hwt
        have hone := List.all_eq_true.1 hre it.i g1
        simp only [ok.op, hw2, Bool.not_true, Bool.false_or] at hone
        have hev := istep_congr (P := P) (eval_of_slots hlook) σ'
        rw [hev] at hone
        refine .inl ⟨hwt, .inl ⟨hrd, ?_⟩⟩
        cases hi2 : istep P it.A.eval it.o σ' with
        | bad => rw [hi2] at hone; cases hone
        | pick n k => rw [hi2] at hone; cases hone
        | ret p =>
          obtain ⟨nx, σ2⟩ := p
          rw [hi2] at hone
          cases nx with
          | value u =>
            simp only at hone
            cases hd : it.o.dst with
            | none => rw [hd] at hone; cases hone
            | some d =>
              rw [hd] at hone
              simp only at hone
              have hdd := hdst d hd
              rw [← hdd, hd] at hone
              simp only [Act.put] at hone
              rw [Array.getElem?_setIfInBounds] at hone
              simp only [if_true] at hone
              split at hone
              · rename_i hu
                split at hu
                · simp only [Option.some.injEq] at hu
                  subst hu
                  have hu := veq_eq 4 _ _ hone
                  obtain ⟨aV, hV⟩ := RunP.virtual (h.hasAll.mono hle) hrun
                  have hsl : Slots β2 (it.o.looksAt ops) it.A aV := ⟨by
                      have h1 := RunP.size (h.hasAll.mono hle) hrun
                      rw [h1.2 it hi, ← h1.1, hV.tmps.1], fun t ht x x' e e' => hV.tmps.2 t x x' (by rw [hlook t ht]; exact e) e'⟩
                  obtain ⟨u1, u2, q1, _, _⟩ := read_istep hsl.rho hrd hR (Q := fun p => p = (.value u, σ2)) (by rw [hi2]; rfl)
                  simp only [Prod.mk.injEq, Next.value.injEq] at q1
                  rw [← q1.2, ← hu]
                · cases hu
              · cases hone
          | _ => cases hone
    · exact .inl ⟨hwt, .inr hpure⟩
    · exact .inr hnot
  · rw [getD_set_ne false (hne it hi)]; exact h.off it hi
  · rw [List.mem_cons, h.mem k]
    constructor
    · rintro (rfl | hk | hk)
      · exact .inl (getD_set_self hlt _)
      · exact .inl (getD_set_mono hk)
      · exact .inr hk
    · rintro (hk | hk)
      · rcases getD_set_or hk with rfl | hk
        · exact .inl rfl
        · exact .inr (.inl hk)
      · exact .inr (.inr hk)
  · rcases getD_set_or hk with rfl | hk
    · rw [hs.op] at ho
      simp only [Option.some.injEq] at ho
      subst ho
      exact getD_set_mono (hw e he hb)
    · exact getD_set_mono (h.down k o' hk ho e he hb)
end
end Go.Ideal
