/-
  Regions that draw their order: whatever the order, what the plan comes to.
-/
import Derived.Test.YtplcocifndpplaaIu
namespace Go.Ideal
open Go
section
variable {P : Program} {B : Nat} {w0 : Base} {ops : Array Oper}

theorem getD_set_self {L : Array Bool} {i : Nat} (h : i < L.size) (d : Bool) : (L.setIfInBounds i true).getD i d = true := by
  rw [Array.getD_eq_getD_getElem?, Array.getElem?_setIfInBounds]
  simp [h]

theorem getD_set_mono {L : Array Bool} {i j : Nat} (h : L.getD j false = true) : (L.setIfInBounds i true).getD j false = true := by
  by_cases e : i = j
  · subst e
    refine getD_set_self ?_ _
    rcases Nat.lt_or_ge i L.size with h' | h'
    · exact h'
    · rw [Array.getD_eq_getD_getElem?, Array.getElem?_eq_none h'] at h; cases h
  · rw [getD_set_ne false e]; exact h

theorem getD_set_or {L : Array Bool} {i j : Nat} (h : (L.setIfInBounds i true).getD j false = true) : j = i ∨ L.getD j false = true := by
  by_cases e : i = j
  · exact .inl e.symm
  · rw [getD_set_ne false e] at h; exact .inr h

theorem takeWhile_new {done : List Nat} {i r : Nat} (h : i ≠ r) : (i :: done).takeWhile (· != r) = i :: done.takeWhile (· != r) := by
  rw [List.takeWhile_cons, if_pos (by simpa using h)]

theorem eval_of_slots {a a' : Act} {o : Oper} (h : ∀ t ∈ o.looksAt ops, a.tmps[t]? = a'.tmps[t]?) : ∀ x ∈ o.op.operands, a.eval x = a'.eval x := by
  intro x hx
  cases x with
  | tmp t =>
    have := h t (List.mem_append_left _ (List.mem_filterMap.2 ⟨.tmp t, by simpa using hx, rfl⟩))
    simp only [Act.eval, Array.getD_eq_getD_getElem?, this]
  | _ => rfl

theorem wanted_of_slots {a a' : Act} {o : Oper} (h : ∀ t ∈ o.looksAt ops, a.tmps[t]? = a'.tmps[t]?) : Region.wanted o (yielded ops a.tmps) = Region.wanted o (yielded ops a'.tmps) := by
  unfold Region.wanted
  cases hg : o.guard with
  | none => rfl
  | some gw =>
    obtain ⟨g, want⟩ := gw
    simp only
    unfold yielded
    cases hd : (ops[g]?).bind (·.dst) with
    | none => rfl
    | some d =>
      simp only [Option.bind_some]
      rw [h d (by simp [Oper.looksAt, hg, hd])]

variable {done acted : List Nat} {L : Array Bool} {ps : List Item} {as : List AItem} {β : Beta} {σ w : World} {aI aR : Act}

theorem Inv.hasAll (h : Inv P B w0 ops done L ps as β σ w aI aR) : Has β ps := fun it hi => (h.item it hi).has

theorem lateOk_acts {i : Nat} {o : Oper} (h : lateOk ops (waitsFor ops) i o = true) : lateOp o.op = true ∧ acts o.op = true := by
  simp only [lateOk, Bool.and_eq_true] at h
  have key : ∀ op : Op, lateOp op = true → acts op = true := fun op h => by cases op <;> first | rfl | cases h
  exact ⟨h.1, key _ h.1⟩

theorem Inv.inDone (h : Inv P B w0 ops done L ps as β σ w aI aR) {it : Item} (hi : it ∈ ps) : it.i ∈ done := by
  rcases (h.mem _).2 (.inr ⟨it, hi, rfl⟩) with g | ⟨x, hx, e⟩
  · exact g
  · have ok := h.ahead x hx
    have h1 := ok.on
    rw [e, h.off it hi] at h1
    cases h1

theorem mem_slots {x : AItem} (hx : x ∈ as) {d : Tmp} (hd : x.o.dst = some d) : d ∈ slotsOf as := List.mem_filterMap.2 ⟨x, hx, hd⟩

theorem slots_apart {o : Oper} (h : ∀ x ∈ as, o.apart ops x.o = true) : ∀ t ∈ o.looksAt ops, t ∉ slotsOf as := fun t ht hm => by
  obtain ⟨x, hx, hd⟩ := List.mem_filterMap.1 hm
  exact (Oper.apart_spec (h x hx)).2.2 t hd ht

/-- One more pends. -/
theorem Inv.push (h : Inv P B w0 ops done L ps as β σ w aI aR) {i : Nat} {re : List Nat} {rest : Plan} {o : Oper} {v : Value} (hs : Step ops i re rest done acted o) (ha : acts o.op = false)
    (hapA : ∀ x ∈ as, o.apart ops x.o = true) (hna : ∀ x ∈ as, x.j ≠ i)
    (hv : Val P ops σ ⟨i, o, aI, v⟩) (hh : ∃ v', VR β v v') : Inv P B w0 ops (i :: done) L (ps ++ [⟨i, o, aI, v⟩]) as β σ w (aI.put o.dst v) aR where
  rel := h.rel
  size := h.size
  item := by
    intro it hi
    rw [List.mem_append, List.mem_singleton] at hi
    rcases hi with hi | rfl
    · have ok := h.item it hi
      have hne : i ≠ it.i := fun e => hs.fresh (e ▸ h.inDone hi)
      refine ⟨ok.op, ok.still, ok.val, fun t ht => ?_, ok.has⟩
      rw [takeWhile_new hne] at ht
      have h0 := ht i (by simp)
      rw [Array.getD_eq_getD_getElem?, hs.op] at h0
      rw [put_get_ne (d := o.dst) aI v h0]
      exact ok.keeps t fun j hj => ht j (by simp [hj])
    · exact ⟨hs.op, ha, hv, fun t _ => rfl, hh⟩
  run := RunP.push (slots_apart hapA) h.run
  pair := by
    rw [List.pairwise_append]
    refine ⟨h.pair, List.pairwise_singleton _ _, fun p hp q hq => ?_⟩
    rw [List.mem_singleton] at hq
    subst hq
    rcases hs.apart p.i (h.inDone hp) with g | g
    · exact .inl g
    · rw [Array.getD_eq_getD_getElem?, (h.item p hp).op] at g
      exact .inr g
  nodup := by
    rw [List.map_append, List.nodup_append]
    refine ⟨h.nodup, by simp, fun a ha b hb => ?_⟩
    simp only [List.map_cons, List.map_nil, List.mem_singleton] at hb
    subst hb
    rintro rfl
    obtain ⟨it, hit, e⟩ := List.mem_map.1 ha
    exact hs.fresh (e ▸ h.inDone hit)
  off := by
    intro it hi
    rw [List.mem_append, List.mem_singleton] at hi
    rcases hi with hi | rfl
    · exact h.off it hi
    · cases hL : L.getD i false with
      | false => rfl
      | true =>
        rcases (h.mem i).2 (.inl hL) with g | ⟨x, hx, e⟩
        · exact absurd g hs.fresh
        · exact absurd e (hna x hx)
  mem := by
    intro k
    rw [List.mem_cons]
    constructor
    · rintro ((rfl | hk) | hk)
      · exact .inr ⟨_, List.mem_append_right _ (List.mem_singleton.2 rfl), rfl⟩
      · exact ((h.mem k).1 (.inl hk)).imp id fun ⟨it, hi, e⟩ => ⟨it, List.mem_append_left _ hi, e⟩
      · exact ((h.mem k).1 (.inr hk)).imp id fun ⟨it, hi, e⟩ => ⟨it, List.mem_append_left _ hi, e⟩
    · rintro (hk | ⟨it, hi, e⟩)
      · exact ((h.mem k).2 (.inl hk)).imp .inr id
      · rw [List.mem_append, List.mem_singleton] at hi
        rcases hi with hi | rfl
        · exact ((h.mem k).2 (.inr ⟨it, hi, e⟩)).imp .inr id
        · exact .inl (.inl e.symm)
  down := h.down
  ahead := fun x hx => by
    have ok := h.ahead x hx
    obtain ⟨h1, h2, h3⟩ := Oper.apart_spec (hapA x hx)
    exact ⟨ok.op, ok.late, by simpa using ⟨hna x hx, ok.fresh⟩, ok.on, fun t ht => by rw [put_get_ne _ _ (fun e => h1 t e ht)]; exact ok.look t ht, ok.slot, ok.waits, ok.res⟩
  once := h.once
  apartA := h.apartA

/-- One that pends is run. -/
theorem Inv.take {ps1 ps2 : List Item} {it : Item} (h : Inv P B w0 ops done L (ps1 ++ it :: ps2) as β σ w aI aR) {v' : Value}
    (hapA : ∀ x ∈ as, it.o.apart ops x.o = true)
    (hw : ∀ e ∈ it.o.after, Region.binds .any e = true → L.getD e.on false = true) (hrun : RunP (slotsOf as) ops (ps1 ++ ps2) β (aR.put it.o.dst v') aI) :
    Inv P B w0 ops done (L.setIfInBounds it.i true) (ps1 ++ ps2) as β σ w aI (aR.put it.o.dst v') := by
  have hsub : ∀ x ∈ ps1 ++ ps2, x ∈ ps1 ++ it :: ps2 := fun x hx => by
    rw [List.mem_append] at hx ⊢
    exact hx.imp id (List.mem_cons_of_mem _)
  have hsl : (ps1 ++ ps2).Sublist (ps1 ++ it :: ps2) := List.Sublist.append_left (List.sublist_cons_self _ _) _
  have hit : it ∈ ps1 ++ it :: ps2 := by simp
  have hlt : it.i < L.size := by rw [h.size]; exact (Array.getElem?_eq_some_iff.1 (h.item it hit).op).1
  have hnd : ∀ x ∈ ps1 ++ ps2, x.i ≠ it.i := by
    have h0 := h.nodup
    rw [List.map_append, List.map_cons, List.nodup_append] at h0
    obtain ⟨_, h2, h3⟩ := h0
    rw [List.nodup_cons] at h2
    intro x hx e
    rw [List.mem_append] at hx
    rcases hx with hx | hx
    · exact h3 x.i (List.mem_map.2 ⟨x, hx, rfl⟩) it.i (by simp) e
    · exact h2.1 (e ▸ List.mem_map.2 ⟨x, hx, rfl⟩)
  refine ⟨h.rel, by simp [h.size], fun x hx => h.item x (hsub x hx), hrun, h.pair.sublist hsl, h.nodup.sublist (hsl.map _), fun x hx => ?_, fun k => ?_, fun k o hk ho e he hb => ?_, fun x hx => ?_, h.once, h.apartA⟩
  · rw [getD_set_ne false (fun e => hnd x hx e.symm)]
    exact h.off x (hsub x hx)
  · rw [h.mem k]
    constructor
    · rintro (hk | ⟨x, hx, e⟩)
      · exact .inl (getD_set_mono hk)
      · by_cases hki : x = it
        · subst hki; subst e; exact .inl (getD_set_self hlt _)
        · refine .inr ⟨x, ?_, e⟩
          rw [List.mem_append, List.mem_cons] at hx
          rw [List.mem_append]
          rcases hx with hx | hx | hx
          · exact .inl hx
          · exact absurd hx hki
          · exact .inr hx
    · rintro (hk | ⟨x, hx, e⟩)
      · rcases getD_set_or hk with rfl | hk
        · exact .inr ⟨it, hit, rfl⟩
        · exact .inl hk
      · exact .inr ⟨x, hsub x hx, e⟩
  · rcases getD_set_or hk with rfl | hk
    · rw [(h.item it hit).op] at ho
      simp only [Option.some.injEq] at ho
      subst ho
      exact getD_set_mono (hw e he hb)
    · exact getD_set_mono (h.down k o hk ho e he hb)
  · have ok := h.ahead x hx
    obtain ⟨h1, h2, h3⟩ := Oper.apart_spec (hapA x hx)
    exact ⟨ok.op, ok.late, ok.fresh, getD_set_mono ok.on, ok.look, fun d hd hlt => by rw [put_get_ne _ _ (fun e => h2 d e hd)]; exact ok.slot d hd (by rw [put_size] at hlt; exact hlt), fun q hq => getD_set_mono (ok.waits q hq), ok.res⟩

/-- What pends comes to what it came to, one more operation done. -/
theorem Inv.items (h : Inv P B w0 ops done L ps as β σ w aI aR) {i : Nat} {re : List Nat} {rest : Plan} {o : Oper} {v : Value} {D : List Tmp} {aR' : Act} {w1 : Base} {β2 : Beta} {σ' w' : World} (hs : Step ops i re rest done acted o) (ha : acts o.op = true)
    (hap : ∀ p ∈ ps, ((waitsFor ops).getD i 0).testBit p.i = false) (hle : β.le β2) (hR : R P B w1 β2 σ' w') (hrun : RunP D ops ps β2 aR' (aI.put o.dst v)) (hD : ∀ it ∈ ps, ∀ t ∈ it.o.looksAt ops, t ∉ D)
    (hre : recheck P ops (aI.put o.dst v) σ' re = true) : ∀ it ∈ ps, ItemOK P ops (i :: done) σ' β2 (aI.put o.dst v) it := by
  have hne : ∀ p ∈ ps, i ≠ p.i := fun p hp e => hs.fresh (e ▸ h.inDone hp)
  have hkeeps : ∀ it ∈ ps, ∀ t, (∀ j ∈ (i :: done).takeWhile (· != it.i), (ops.getD j default).dst ≠ some t) → (it.A.put it.o.dst it.v).tmps[t]? = (aI.put o.dst v).tmps[t]? := by
    intro it hi t ht
    rw [takeWhile_new (hne it hi)] at ht
    have h0 := ht i (by simp)
    rw [Array.getD_eq_getD_getElem?, hs.op] at h0
    rw [put_get_ne (d := o.dst) aI v h0]
    exact (h.item it hi).keeps t fun j hj => ht j (by simp [hj])
  intro it hi
  have ok := h.item it hi
  refine ⟨ok.op, ok.still, ?_, hkeeps it hi, let ⟨v', hv⟩ := ok.has; ⟨v', hv.mono hle⟩⟩
  rcases ok.val with ⟨hwt, ⟨hrd, hst⟩ | hpure⟩ | hnot
  · have hop : ops.getD it.i default = it.o := by rw [Array.getD_eq_getD_getElem?, ok.op]; rfl
    rcases hs.again ha it.i (h.inDone hi) with g | g | ⟨g1, g2, g3⟩
    · rw [hap it hi] at g; cases g
    · rw [hop, hrd] at g; cases g
    · rw [hop] at g2 g3
      rw [← takeWhile_new (hne it hi)] at g3
      have hlook : ∀ t ∈ it.o.looksAt ops, (aI.put o.dst v).tmps[t]? = it.A.tmps[t]? := fun t ht => by
        rw [← hkeeps it hi t (fun j hj e => (g3 j hj t e).2 ht)]
        exact put_get_ne _ _ (fun e => g2 t e ht)
      have hdst : ∀ d, it.o.dst = some d → (it.A.put it.o.dst it.v).tmps[d]? = (aI.put o.dst v).tmps[d]? := fun d hd =>
        hkeeps it hi d (fun j hj e => (g3 j hj d e).1 hd)
      have hw2 : Region.wanted it.o (yielded ops (aI.put o.dst v).tmps) = true := by rw [wanted_of_slots hlook]; exact hwt
      have hone := List.all_eq_true.1 hre it.i g1
      simp only [ok.op, hw2, Bool.not_true, Bool.false_or] at hone
      have hev := istep_congr (P := P) (eval_of_slots hlook) σ'
      rw [hev] at hone
      refine .inl ⟨hwt, .inl ⟨hrd, ?_⟩⟩
      cases hi2 : istep P it.A.eval it.o σ' with
      | bad => rw [hi2] at hone; cases hone
      | pick n k => rw [hi2] at hone; cases hone
      | ret p =>
        obtain ⟨nx, σ2⟩ := p
        rw [hi2] at hone
        cases nx with
        | value u =>
          simp only at hone
          cases hd : it.o.dst with
          | none => rw [hd] at hone; cases hone
          | some d =>
            rw [hd] at hone
            simp only at hone
            have hdd := hdst d hd
            rw [← hdd, hd] at hone
            simp only [Act.put] at hone
            rw [Array.getElem?_setIfInBounds] at hone
            simp only [if_true] at hone
            split at hone
            · rename_i hu
              split at hu
              · simp only [Option.some.injEq] at hu
                subst hu
                have hu := veq_eq 4 _ _ hone
                obtain ⟨aV, hV⟩ := RunP.virtual (h.hasAll.mono hle) hrun
                have hsl : Slots β2 (it.o.looksAt ops) it.A aV := ⟨by
                    have h1 := RunP.size (h.hasAll.mono hle) hrun
                    rw [h1.2 it hi, ← h1.1, hV.size], fun t ht x x' e e' => hV.tmps t (hD it hi t ht) x x' (by rw [hlook t ht]; exact e) e'⟩
                obtain ⟨u1, u2, q1, _, _⟩ := read_istep hsl.rho hrd hR (Q := fun p => p = (.value u, σ2)) (by rw [hi2]; rfl)
                simp only [Prod.mk.injEq, Next.value.injEq] at q1
                rw [← q1.2, ← hu]
              · cases hu
            · cases hone
        | _ => cases hone
  · exact .inl ⟨hwt, .inr hpure⟩
  · exact .inr hnot

/-- One that acts is run. -/
theorem Inv.act (h : Inv P B w0 ops done L ps as β σ w aI aR) {i : Nat} {re : List Nat} {rest : Plan} {o : Oper} {v v' : Value} {β2 : Beta} {σ' w' : World} (hs : Step ops i re rest done acted o) (ha : acts o.op = true)
    (hapA : ∀ x ∈ as, o.apart ops x.o = true) (hna : ∀ x ∈ as, x.j ≠ i) (hapP : ∀ p ∈ ps, ∀ x ∈ as, p.o.apart ops x.o = true)
    (hw : ∀ e ∈ o.after, Region.binds .any e = true → L.getD e.on false = true) (hap : ∀ p ∈ ps, ((waitsFor ops).getD i 0).testBit p.i = false) (hle : β.le β2) (hR : R P B w0 β2 σ' w') (hv : VR β2 v v')
    (hre : recheck P ops (aI.put o.dst v) σ' re = true) : Inv P B w0 ops (i :: done) (L.setIfInBounds i true) ps as β2 σ' w' (aI.put o.dst v) (aR.put o.dst v') := by
  have hlt : i < L.size := by rw [h.size]; exact (Array.getElem?_eq_some_iff.1 hs.op).1
  have hne : ∀ p ∈ ps, i ≠ p.i := fun p hp e => hs.fresh (e ▸ h.inDone hp)
  have hapart : ∀ p ∈ ps, p.o.apart ops o = true := fun p hp => by
    rcases hs.apart p.i (h.inDone hp) with g | g
    · rw [hap p hp] at g; cases g
    · rw [Array.getD_eq_getD_getElem?, (h.item p hp).op] at g; exact g
  have hrun : RunP (slotsOf as) ops ps β2 (aR.put o.dst v') (aI.put o.dst v) := RunP.act (fun p hp => by
    obtain ⟨h1, h2, h3⟩ := Oper.apart_spec (hapart p hp)
    exact ⟨h3, fun x hx hx' => h2 x hx' hx⟩) hv (h.run.mono hle)
  refine ⟨hR, by simp [h.size], h.items hs ha hap hle hR hrun (fun it hi => slots_apart (hapP it hi)) hre, hrun, h.pair, h.nodup, fun it hi => ?_, fun k => ?_, fun k o' hk ho e he hb => ?_, fun x hx => ?_, h.once, h.apartA⟩
  · rw [getD_set_ne false (hne it hi)]; exact h.off it hi
  · rw [List.mem_cons]
    constructor
    · rintro ((rfl | hk) | hk)
      · exact .inl (getD_set_self hlt _)
      · exact ((h.mem k).1 (.inl hk)).imp getD_set_mono id
      · exact ((h.mem k).1 (.inr hk)).imp getD_set_mono id
    · rintro (hk | hk)
      · rcases getD_set_or hk with rfl | hk
        · exact .inl (.inl rfl)
        · exact ((h.mem k).2 (.inl hk)).imp .inr id
      · exact ((h.mem k).2 (.inr hk)).imp .inr id
  · rcases getD_set_or hk with rfl | hk
    · rw [hs.op] at ho
      simp only [Option.some.injEq] at ho
      subst ho
      exact getD_set_mono (hw e he hb)
    · exact getD_set_mono (h.down k o' hk ho e he hb)
  · have ok := h.ahead x hx
    obtain ⟨h1, h2, h3⟩ := Oper.apart_spec (hapA x hx)
    exact ⟨ok.op, ok.late, by simpa using ⟨hna x hx, ok.fresh⟩, getD_set_mono ok.on, fun t ht => by rw [put_get_ne _ _ (fun e => h1 t e ht)]; exact ok.look t ht,
      fun d hd hlt => by rw [put_get_ne _ _ (fun e => h2 d e hd)]; exact ok.slot d hd (by rw [put_size] at hlt; exact hlt), fun q hq => getD_set_mono (ok.waits q hq),
      ok.res.imp id fun ⟨r1, r2, r3, cs, cs', e, sh, r4, r5, r6, r7, r8⟩ => ⟨r1, r2, r3, cs, cs', e, sh, r4, r5, r6, r7, r8.mono hle⟩⟩

/-- One that came ahead of its time is done by the ideal run. -/
theorem Inv.late {as1 as2 : List AItem} {x : AItem} (h : Inv P B w0 ops done L ps (as1 ++ x :: as2) β σ w aI aR) {re : List Nat} {rest : Plan} {v : Value} {w1 : Base} {β2 : Beta} {σ' : World} (hs : Step ops x.j re rest done acted x.o)
    (hapP : ∀ p ∈ ps, ∀ y ∈ as1 ++ x :: as2, p.o.apart ops y.o = true) (hap2 : ∀ y ∈ as1 ++ as2, ∀ d, x.o.dst = some d → d ∉ y.o.looksAt ops)
    (hb : ∀ y ∈ as1 ++ as2, Region.wanted y.o (yielded ops y.A.tmps) = true → w1.S y.r ∧ w1.o y.r = w0.o y.r)
    (hle : β.le β2) (hR : R P B w1 β2 σ' w) (hv : VR β2 v x.v)
    (hre : recheck P ops (aI.put x.o.dst v) σ' re = true) : Inv P B w1 ops (x.j :: done) L ps (as1 ++ as2) β2 σ' w (aI.put x.o.dst v) aR := by
  have hx : x ∈ as1 ++ x :: as2 := by simp
  have okx := h.ahead x hx
  have hsub : ∀ y ∈ as1 ++ as2, y ∈ as1 ++ x :: as2 := fun y hy => by
    rw [List.mem_append] at hy ⊢
    exact hy.imp id (List.mem_cons_of_mem _)
  have hsl : (as1 ++ as2).Sublist (as1 ++ x :: as2) := List.Sublist.append_left (List.sublist_cons_self _ _) _
  have hnj : ∀ y ∈ as1 ++ as2, y.j ≠ x.j := fun y hy => by
    have := h.once
    rw [List.pairwise_append] at this
    rw [List.mem_append] at hy
    rcases hy with hy | hy
    · exact (this.2.2 y hy x (by simp)).1
    · have h2 := this.2.1
      rw [List.pairwise_cons] at h2
      exact fun e => (h2.1 y hy).1 e.symm
  have hnd : ∀ y ∈ as1 ++ as2, ∀ d, x.o.dst = some d → y.o.dst ≠ some d := fun y hy d hd => by
    have := h.apartA
    rw [List.pairwise_append] at this
    rw [List.mem_append] at hy
    rcases hy with hy | hy
    · exact fun e => this.2.2 y hy x (by simp) d e hd
    · have h2 := this.2.1
      rw [List.pairwise_cons] at h2
      exact h2.1 y hy d hd
  have hap : ∀ p ∈ ps, ((waitsFor ops).getD x.j 0).testBit p.i = false := fun p hp => by
    cases hb : ((waitsFor ops).getD x.j 0).testBit p.i with
    | false => rfl
    | true =>
      have := okx.waits _ hb
      rw [h.off p hp] at this
      cases this
  have hrun : RunP (slotsOf (as1 ++ as2)) ops ps β2 aR (aI.put x.o.dst v) := RunP.fewer (D := slotsOf (as1 ++ x :: as2)) (v' := x.v) (fun t ht => by
      obtain ⟨y, hy, hd⟩ := List.mem_filterMap.1 ht
      rw [List.mem_append, List.mem_cons] at hy
      rcases hy with hy | rfl | hy
      · exact .inl (mem_slots (List.mem_append_left _ hy) hd)
      · exact .inr hd
      · exact .inl (mem_slots (List.mem_append_right _ hy) hd)) okx.slot (fun p hp d hd hd' => (Oper.apart_spec (hapP p hp x hx)).2.1 d hd' hd) hv (h.run.mono hle)
  refine ⟨hR, h.size, h.items hs (lateOk_acts okx.late).2 hap hle hR hrun (fun it hi => slots_apart fun y hy => hapP it hi y (hsub y hy)) hre, hrun, h.pair, h.nodup, h.off, fun k => ?_, h.down, fun y hy => ?_, h.once.sublist hsl, h.apartA.sublist hsl⟩
  · rw [← h.mem k, List.mem_cons]
    constructor
    · rintro ((rfl | hk) | ⟨y, hy, e⟩)
      · exact .inr ⟨x, hx, rfl⟩
      · exact .inl hk
      · exact .inr ⟨y, hsub y hy, e⟩
    · rintro (hk | ⟨y, hy, e⟩)
      · exact .inl (.inr hk)
      · rw [List.mem_append, List.mem_cons] at hy
        rcases hy with hy | rfl | hy
        · exact .inr ⟨y, List.mem_append_left _ hy, e⟩
        · exact .inl (.inl e.symm)
        · exact .inr ⟨y, List.mem_append_right _ hy, e⟩
  · have ok := h.ahead y (hsub y hy)
    refine ⟨ok.op, ok.late, by simpa using ⟨hnj y hy, ok.fresh⟩, ok.on, fun t ht => by rw [put_get_ne _ _ (fun e => hap2 y hy t e ht)]; exact ok.look t ht, ok.slot, ok.waits, ?_⟩
    rcases ok.res with r | ⟨r1, r2, r3, cs, cs', e, sh, r4, r5, r6, r7, r8⟩
    · exact .inl r
    · obtain ⟨q1, q2⟩ := hb y hy r1
      exact .inr ⟨r1, q1, r3, cs, cs', e, sh, r4, r5, r6, by rw [q2]; exact r7, r8.mono hle⟩

/-- The real run does one ahead of its time. -/
theorem Inv.early (h : Inv P B w0 ops done L ps as β σ w aI aR) {x : AItem} {w1 : Base} {w' : World} (hop : ops[x.j]? = some x.o) (hlate : lateOk ops (waitsFor ops) x.j x.o = true) (hfresh : x.j ∉ done) (hoff : L.getD x.j false = false) (hnp : ∀ p ∈ ps, p.i ≠ x.j)
    (hA : x.A = aI) (hapP : ∀ p ∈ ps, p.o.apart ops x.o = true) (hapA : ∀ y ∈ as, ∀ d, y.o.dst = some d → x.o.dst ≠ some d) (hwaits : ∀ q, ((waitsFor ops).getD x.j 0).testBit q = true → L.getD q false = true)
    (hw : ∀ e ∈ x.o.after, Region.binds .any e = true → L.getD e.on false = true)
    (hb : ∀ y ∈ as, Region.wanted y.o (yielded ops y.A.tmps) = true → w1.S y.r ∧ w1.o y.r = w0.o y.r) (hr : ∀ y ∈ as, Region.wanted y.o (yielded ops y.A.tmps) = true → Region.wanted x.o (yielded ops x.A.tmps) = true → y.r ≠ x.r)
    (hres : (Region.wanted x.o (yielded ops x.A.tmps) = false ∧ x.v = undef) ∨
      (Region.wanted x.o (yielded ops x.A.tmps) = true ∧ w1.S x.r ∧ B ≤ x.r ∧ ∃ cs cs' e sh, freshObj P x.o.op x.A.eval = some (cs, e, sh) ∧ lateFit P x.o.op = true ∧ x.v = sh x.r ∧ w1.o x.r = some (.cells cs' e) ∧ AR β cs cs'))
    (hR : R P B w1 β σ w') : Inv P B w1 ops done (L.setIfInBounds x.j true) ps (as ++ [x]) β σ w' aI (aR.put x.o.dst x.v) := by
  have hlt : x.j < L.size := by rw [h.size]; exact (Array.getElem?_eq_some_iff.1 hop).1
  have hne : ∀ y ∈ as, y.j ≠ x.j := fun y hy e => by
    have := (h.ahead y hy).on
    rw [e, hoff] at this
    cases this
  have hrun : RunP (slotsOf (as ++ [x])) ops ps β (aR.put x.o.dst x.v) aI := RunP.more (D := slotsOf as) (fun t ht => by
      obtain ⟨y, hy, hd⟩ := List.mem_filterMap.1 ht
      exact mem_slots (List.mem_append_left _ hy) hd) (fun t ht => mem_slots (List.mem_append_right _ (by simp)) ht) (fun p hp => by
      obtain ⟨h1, h2, h3⟩ := Oper.apart_spec (hapP p hp)
      exact ⟨h3, fun d hd hd' => h2 d hd' hd⟩) h.run
  refine ⟨hR, by simp [h.size], h.item, hrun, h.pair, h.nodup, fun it hi => ?_, fun k => ?_, fun k o' hk ho e he hbn => ?_, fun y hy => ?_, ?_, ?_⟩
  · rw [getD_set_ne false (fun e => hnp it hi e.symm)]; exact h.off it hi
  · constructor
    · rintro (hk | ⟨y, hy, e⟩)
      · exact ((h.mem k).1 (.inl hk)).imp getD_set_mono id
      · rw [List.mem_append, List.mem_singleton] at hy
        rcases hy with hy | rfl
        · exact ((h.mem k).1 (.inr ⟨y, hy, e⟩)).imp getD_set_mono id
        · subst e; exact .inl (getD_set_self hlt _)
    · rintro (hk | hk)
      · rcases getD_set_or hk with rfl | hk
        · exact .inr ⟨x, by simp, rfl⟩
        · exact ((h.mem k).2 (.inl hk)).imp id fun ⟨y, hy, e⟩ => ⟨y, List.mem_append_left _ hy, e⟩
      · exact ((h.mem k).2 (.inr hk)).imp id fun ⟨y, hy, e⟩ => ⟨y, List.mem_append_left _ hy, e⟩
  · rcases getD_set_or hk with rfl | hk
    · rw [hop] at ho
      simp only [Option.some.injEq] at ho
      subst ho
      exact getD_set_mono (hw e he hbn)
    · exact getD_set_mono (h.down k o' hk ho e he hbn)
  · rw [List.mem_append, List.mem_singleton] at hy
    rcases hy with hy | rfl
    · have ok := h.ahead y hy
      refine ⟨ok.op, ok.late, ok.fresh, getD_set_mono ok.on, ok.look, fun d hd hlt => by rw [put_get_ne _ _ (hapA y hy d hd)]; exact ok.slot d hd (by rw [put_size] at hlt; exact hlt), fun q hq => getD_set_mono (ok.waits q hq), ?_⟩
      rcases ok.res with r | ⟨r1, r2, r3, cs, cs', e, sh, r4, r5, r6, r7, r8⟩
      · exact .inl r
      · obtain ⟨q1, q2⟩ := hb y hy r1
        exact .inr ⟨r1, q1, r3, cs, cs', e, sh, r4, r5, r6, by rw [q2]; exact r7, r8⟩
    · refine ⟨hop, hlate, hfresh, getD_set_self hlt _, fun t _ => by rw [hA], fun d hd hlt => ?_, fun q hq => getD_set_mono (hwaits q hq), hres⟩
      rw [hd] at hlt ⊢
      simp only [Act.put, Array.size_setIfInBounds] at hlt
      simp [Act.put, Array.getElem?_setIfInBounds, hlt]
  · rw [List.pairwise_append]
    refine ⟨h.once, List.pairwise_singleton _ _, fun y hy z hz => ?_⟩
    rw [List.mem_singleton] at hz
    subst hz
    exact ⟨hne y hy, fun r w1 w2 e e' => hr y hy w1 w2 (e.trans e'.symm)⟩
  · rw [List.pairwise_append]
    refine ⟨h.apartA, List.pairwise_singleton _ _, fun y hy z hz => ?_⟩
    rw [List.mem_singleton] at hz
    subst hz
    exact hapA y hy
end
end Go.Ideal
