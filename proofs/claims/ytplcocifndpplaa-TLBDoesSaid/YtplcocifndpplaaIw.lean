/-
  Regions that draw their order: the law.
-/
import Derived.Test.YtplcocifndpplaaIv
namespace Go.Ideal
open Go
section
variable {P : Program} {B : Nat} {w0 : Base} {ops : Array Oper}

def BackO (ops : Array Oper) : Prop := ∀ i o, ops[i]? = some o → ∀ e ∈ o.after, Region.binds .any e = true → e.on < i

theorem all_listed (hback : BackO ops) {L : Array Bool} (hsz : L.size = ops.size) (hr : Region.ready .any ops L = []) : ∀ (k i : Nat), i ≤ k → i < ops.size → L.getD i false = true := by
  intro k
  induction k with
  | zero =>
    intro i hi hlt
    cases hL : L.getD i false with
    | true => rfl
    | false =>
      have : i ∈ Region.ready .any ops L := mem_ready.2 ⟨by rw [Array.getD_eq_getD_getElem?] at hL ⊢; rw [Array.getElem?_eq_getElem (by omega)] at hL ⊢; exact hL, ops[i], by simp [hlt], fun e he hb => by
        have := hback i ops[i] (by simp [hlt]) e he hb; omega⟩
      rw [hr] at this; cases this
  | succ k ih =>
    intro i hi hlt
    cases hL : L.getD i false with
    | true => rfl
    | false =>
      have : i ∈ Region.ready .any ops L := mem_ready.2 ⟨by rw [Array.getD_eq_getD_getElem?] at hL ⊢; rw [Array.getElem?_eq_getElem (by omega)] at hL ⊢; exact hL, ops[i], by simp [hlt], fun e he hb => by
        have := hback i ops[i] (by simp [hlt]) e he hb
        exact ih e.on (by omega) (by omega)⟩
      rw [hr] at this; cases this

variable {K : Kont} {ro : Option Nat} {n : Nat} {Q : Act × World → Prop} {Qx : Exit → Act → World → Prop} {β0 : Beta}

/-! ### What is left -/
def unl (L : Array Bool) : Nat := (List.range L.size).countP fun i => !L.getD i false

theorem unl_zero {L : Array Bool} (h : unl L = 0) : ∀ i, i < L.size → L.getD i false = true := fun i hi => by
  have := List.countP_eq_zero.1 h i (by simpa using hi)
  simpa using this

theorem count_off {p p' : Nat → Bool} {j : Nat} (hj : p j = true) (hj' : p' j = false) (hne : ∀ i, i ≠ j → p' i = p i) : ∀ (l : List Nat), l.Nodup → j ∈ l → l.countP p' + 1 = l.countP p
  | [], _, h => by cases h
  | a :: l, hn, h => by
    rw [List.nodup_cons] at hn
    by_cases e : a = j
    · subst e
      have hc : l.countP p' = l.countP p := List.countP_congr fun x hx => by rw [hne x (fun e => hn.1 (e ▸ hx))]
      simp only [List.countP_cons, hj, hj', hc, if_true, Bool.false_eq_true, if_false]
    · have hm : j ∈ l := by
        rcases List.mem_cons.1 h with e2 | e2
        · exact absurd e2.symm e
        · exact e2
      have ih := count_off hj hj' hne l hn.2 hm
      simp only [List.countP_cons, hne a e]
      omega

theorem unl_set {L : Array Bool} {j : Nat} (hj : j < L.size) (h : L.getD j false = false) : unl (L.setIfInBounds j true) + 1 = unl L := by
  unfold unl
  rw [Array.size_setIfInBounds]
  refine count_off (j := j) (p := fun i => !L.getD i false) (p' := fun i => !(L.setIfInBounds j true).getD i false) ?_ ?_ (fun i hi => ?_) _ List.nodup_range (by simpa using hj)
  · simp only [h, Bool.not_false]
  · simp only [getD_set_self hj, Bool.not_true]
  · rw [getD_set_ne false (fun e => hi e.symm)]

/-- More is held. -/
def Base.le (w0 w1 : Base) : Prop := w1.w = w0.w ∧ ∀ k, w0.S k → w1.S k ∧ w1.o k = w0.o k
theorem Base.le.refl (w0 : Base) : Base.le w0 w0 := ⟨rfl, fun _ h => ⟨h, rfl⟩⟩
theorem R.weaken {w1 : Base} {β : Beta} {σ w : World} (hb : Base.le w0 w1) (h : R P B w1 β σ w) : R P B w0 β σ w where
  below := by rw [← hb.1]; exact h.below
  held := fun k hk => by obtain ⟨a, b⟩ := hb.2 k hk; rw [← b]; exact h.held k a
  size := h.size
  dom := h.dom
  cov := h.cov
  obj := h.obj
  dd := h.dd
  esz := h.esz
  new := h.new
  free := fun b o bi h1 h2 h3 hs => h.free b o bi h1 h2 h3 (hb.2 _ hs).1
  inj := h.inj

/-- What is to be shown, where so many operations are left. -/
def Goal (P : Program) (B : Nat) (w00 : Base) (ops : Array Oper) (K : Kont) (ro : Option Nat) (n : Nat) (Q : Act × World → Prop) (Qx : Exit → Act → World → Prop) (β0 : Beta) (fuel : Nat) : Prop :=
  ∀ (rest : Plan) (done acted : List Nat) (L : Array Bool) (ps : List Item) (as : List AItem) (w0 : Base) (β : Beta) (σ w : World) (aI aR : Act), fuel = unl L → planOk.go ops (waitsFor ops) rest done acted = true →
    Inv P B w0 ops done L ps as β σ w aI aR → Base.le w00 w0 → (∀ x ∈ as, Region.wanted x.o (yielded ops x.A.tmps) = true → ¬ w00.S x.r) → β0.le β → (iplan P K ops rest aI σ).all Q → wpAnyIn (FF ro) n P .any ops Qx fuel L aR w

theorem recheck_then {re : List Nat} {rest : Plan} {a : Act} {σ : World} (h : (if recheck P ops a σ re = true then iplan P K ops rest a σ else .bad).all Q) : recheck P ops a σ re = true ∧ (iplan P K ops rest a σ).all Q := by
  split at h
  · exact ⟨‹_›, h⟩
  · exact h.elim

theorem T.leaf {α : Type} {t : T α} {q : α → Prop} (h : t.all q) : ∃ a, q a := by
  induction t with
  | ret a => exact ⟨a, h⟩
  | bad => exact h.elim
  | pick n k ih => exact ih 0 (h.2 0 h.1)

theorem fresh_congr {op : Op} {ρ ρ' : Operand → Value} (h : ∀ x ∈ op.operands, ρ x = ρ' x) : freshObj P op ρ = freshObj P op ρ' := by
  unfold freshObj
  split
  · rfl
  · rename_i t len parts
    have : (parts.map fun (j, x) => (j, ρ x)) = parts.map fun (j, x) => (j, ρ' x) := by
      apply Array.map_congr_left
      intro p hp
      obtain ⟨j, x⟩ := p
      simp only
      rw [h x (by simp [Op.operands]; exact ⟨j, by simpa using hp⟩)]
    rw [this]
  · rfl

/-- What will lay new memory can lay it now. -/
theorem will_lay {j : Nat} {o : Oper} (ho : ops[j]? = some o) (hl : lateOp o.op = true) : ∀ {rest : Plan} {done acted : List Nat} {aI : Act} {σ : World}, planOk.go ops (waitsFor ops) rest done acted = true → j ∈ rest.map (·.1) →
    (∀ k ∈ rest.map (·.1), ((waitsFor ops).getD j 0).testBit k = false) → (iplan P K ops rest aI σ).all Q → Region.wanted o (yielded ops aI.tmps) = true →
    ∃ cs e sh, freshObj P o.op aI.eval = some (cs, e, sh) ∧ lateFit P o.op = true ∧ o.op.operands.all constFit = true
  | [], _, _, _, _, _, hj, _, _, _ => by simp at hj
  | (i, re) :: rest, done, acted, aI, σ, hp, hj, hnw, hQ, hw => by
    obtain ⟨oi, hs⟩ := planOk_step hp
    have hQ := T.all_bind.1 hQ
    unfold iopAt at hQ
    rw [hs.op] at hQ
    simp only at hQ
    by_cases hij : i = j
    · subst hij
      have : oi = o := by have := hs.op; rw [ho] at this; exact (Option.some.inj this).symm
      subst this
      rw [if_pos hw] at hQ
      have hq := T.all_bind.1 (T.all_bind.1 hQ)
      obtain ⟨cs, e, sh, h1, _, h3⟩ := fresh_of hl hq
      exact ⟨cs, e, sh, h1, h3, istep_consts hq⟩
    · have hjr : j ∈ rest.map (·.1) := by
        simp only [List.map_cons, List.mem_cons] at hj
        rcases hj with e | e
        · exact absurd e.symm hij
        · exact e
      have hap : (ops.getD i default).apart ops o = true := by
        rcases planOk_apart hs.rest i (by simp) j hjr with g | g
        · rw [hnw i (by simp)] at g; cases g
        · rw [Array.getD_eq_getD_getElem? (xs := ops) (i := j), ho] at g; exact g
      rw [Array.getD_eq_getD_getElem?, hs.op] at hap
      have hlook : ∀ (v : Value), ∀ t ∈ o.looksAt ops, (aI.put oi.dst v).tmps[t]? = aI.tmps[t]? := fun v t ht => put_get_ne _ _ (fun e => (Oper.apart_spec hap).1 t e ht)
      have next : ∃ v σ', (iplan P K ops rest (aI.put oi.dst v) σ').all Q := by
        split at hQ
        · obtain ⟨⟨v, σ'⟩, hv⟩ := T.leaf (T.all_bind.1 hQ)
          exact ⟨v, σ', (recheck_then hv).2⟩
        · exact ⟨undef, σ, (recheck_then hQ).2⟩
      obtain ⟨v, σ', hQ'⟩ := next
      obtain ⟨cs, e, sh, h1, h2⟩ := will_lay ho hl hs.rest hjr (fun k hk => hnw k (by simp at hk ⊢; exact .inr hk)) hQ' (by rw [wanted_of_slots (hlook v)]; exact hw)
      exact ⟨cs, e, sh, by rw [← h1]; exact fresh_congr fun x hx => (eval_of_slots (hlook v) x hx).symm, h2⟩

/-- What is apart from what came ahead of its time: all that it does not wait for. -/
theorem Inv.far {done acted : List Nat} {L : Array Bool} {ps : List Item} {as : List AItem} {β : Beta} {σ w : World} {aI aR : Act} {rest : Plan} (h : Inv P B w0 ops done L ps as β σ w aI aR) (hp : planOk.go ops (waitsFor ops) rest done acted = true) :
    (∀ x ∈ as, x.j ∈ rest.map (·.1)) ∧ ∀ k o, ops[k]? = some o → k ∈ done → L.getD k false = false → ∀ x ∈ as, o.apart ops x.o = true := by
  have hin : ∀ x ∈ as, x.j ∈ rest.map (·.1) := fun x hx => planOk_mem hp x.j (Array.getElem?_eq_some_iff.1 (h.ahead x hx).op).1 (h.ahead x hx).fresh
  refine ⟨hin, fun k o ho hk hL x hx => ?_⟩
  have ok := h.ahead x hx
  rcases planOk_apart hp k hk x.j (hin x hx) with g | g
  · have := ok.waits k g
    rw [hL] at this; cases this
  · rw [Array.getD_eq_getD_getElem?, ho, Array.getD_eq_getD_getElem?, ok.op] at g
    exact g

/-- One that is ready is run: it pends, or it is the next that acts, or it lays new memory ahead of its time. -/
theorem any_core {w00 : Base} (hK : ∀ w0, KS P B w0 K) (hback : BackO ops) {fuel : Nat} (ih : Goal P B w00 ops K ro n Q Qx β0 fuel) {rest : Plan} {done acted : List Nat} {L : Array Bool} {ps : List Item} {as : List AItem} {w0 : Base} {β : Beta} {σ w : World} {aI aR : Act}
    (hf : fuel + 1 = unl L) (hp : planOk.go ops (waitsFor ops) rest done acted = true) (h : Inv P B w0 ops done L ps as β σ w aI aR) (hb : Base.le w00 w0) (hout : ∀ x ∈ as, Region.wanted x.o (yielded ops x.A.tmps) = true → ¬ w00.S x.r) (hle0 : β0.le β) (hQ : (iplan P K ops rest aI σ).all Q)
    (hhead : ∀ i re rest', rest = (i, re) :: rest' → acts (ops.getD i default).op = true ∧ ∀ x ∈ as, x.j ≠ i) {j : Nat} (hj : j ∈ Region.ready .any ops L) :
    wpOpIn (FF ro) n P ops Qx j (wpAnyIn (FF ro) n P .any ops Qx fuel (L.setIfInBounds j true)) aR w := by
  obtain ⟨hun, o, ho, hw⟩ := mem_ready.1 hj
  have hjlt : j < ops.size := (Array.getElem?_eq_some_iff.1 ho).1
  have hunf : L.getD j false = false := by
    rw [Array.getD_eq_getD_getElem?] at hun ⊢
    rw [Array.getElem?_eq_getElem (by rw [h.size]; exact hjlt)] at hun ⊢
    exact hun
  have hcount : fuel = unl (L.setIfInBounds j true) := by have := unl_set (by rw [h.size]; exact hjlt) hunf; omega
  have hwl : ∀ r, ((waitsFor ops).getD j 0).testBit r = true → L.getD r false = true :=
    waits_listed (L := fun r => L.getD r false = true) hback (fun i o hi ho => h.down i o hi ho) j j o (Nat.le_refl _) ho hw
  obtain ⟨hin, hfar⟩ := h.far hp
  have hapPA : ∀ p ∈ ps, ∀ x ∈ as, p.o.apart ops x.o = true := fun p hp1 => hfar p.i p.o (h.item p hp1).op (h.inDone hp1) (h.off p hp1)
  unfold wpOpIn
  rw [ho]
  simp only
  by_cases hpend : ∃ it ∈ ps, it.i = j
  · obtain ⟨it, hit, rfl⟩ := hpend
    obtain ⟨ps1, ps2, rfl⟩ := List.append_of_mem hit
    have ok := h.item it hit
    have hio : it.o = o := by have := ok.op; rw [ho] at this; exact (Option.some.inj this).symm
    subst hio
    have hap : ∀ p ∈ ps1, p.o.apart ops it.o = true := fun p hp1 => by
      have hpair := h.pair
      rw [List.pairwise_append] at hpair
      rcases hpair.2.2 p hp1 it (by simp) with g | g
      · have := hwl _ g
        rw [h.off p (by simp [hp1])] at this
        cases this
      · exact g
    obtain ⟨hsl, hcont⟩ := RunP.take h.hasAll hap h.run
    have hgo : ∀ v', VR β it.v v' → wpAnyIn (FF ro) n P .any ops Qx fuel (L.setIfInBounds it.i true) (aR.put it.o.dst v') w := fun v' hv => by
      have hrun := hcont β v' (.refl _) hv
      exact ih rest done acted _ (ps1 ++ ps2) as w0 β σ w aI _ hcount hp (h.take (hapPA it hit) hw hrun) hb hout hle0 hQ
    rw [hsl.wanted]
    rcases ok.val with ⟨hwt, ⟨hrd, hst⟩ | ⟨hrd, σ0, hst⟩⟩ | ⟨hwt, hv⟩
    · rw [hwt, if_pos rfl]
      obtain ⟨u, v', q, hrun, hv⟩ := read_istep hsl.rho hrd h.rel (Q := fun p => p = (.value it.v, σ)) (by rw [hst]; rfl)
      simp only [Prod.mk.injEq, Next.value.injEq] at q
      rw [q.1] at hv
      exact still_in (istep_noDefer (P := P) (ρ := it.A.eval) (σ := σ) (Q := fun _ => True) (by rw [hst]; trivial)) hrun (hgo v' hv)
    · rw [hwt, if_pos rfl]
      obtain ⟨u, v', q, hrun, hv⟩ := pure_istep hsl.rho ok.still hrd σ0 w (Q := fun p => p = (.value it.v, σ0)) (by rw [hst]; rfl)
      simp only [Prod.mk.injEq, Next.value.injEq] at q
      rw [q.1] at hv
      exact still_in (istep_noDefer (P := P) (ρ := it.A.eval) (σ := σ0) (Q := fun _ => True) (by rw [hst]; trivial)) hrun (hgo v' hv)
    · rw [hwt]
      simp only [Bool.false_eq_true, if_false]
      exact ⟨fun _ _ => trivial, hgo undef (by rw [hv]; exact undefVR β)⟩
  · have hnd : j ∉ done := fun hd => by
      rcases (h.mem j).1 (.inl hd) with g | g
      · rw [hunf] at g; cases g
      · exact hpend g
    have hnA : ∀ x ∈ as, x.j ≠ j := fun x hx e => by
      have := (h.ahead x hx).on
      rw [e, hunf] at this; cases this
    have hapPj : ∀ p ∈ ps, ((waitsFor ops).getD j 0).testBit p.i = false := fun p hp1 => by
      cases hb : ((waitsFor ops).getD j 0).testBit p.i with
      | false => rfl
      | true =>
        have := hwl _ hb
        rw [h.off p hp1] at this
        cases this
    have hjrest := planOk_mem hp j hjlt hnd
    have hapP : ∀ p ∈ ps, p.o.apart ops o = true := fun p hp1 => by
      rcases planOk_apart hp p.i (h.inDone hp1) j hjrest with g | g
      · rw [hapPj p hp1] at g; cases g
      · rw [Array.getD_eq_getD_getElem?, (h.item p hp1).op, Array.getD_eq_getD_getElem?, ho] at g; exact g
    cases rest with
    | nil => simp at hjrest
    | cons hd rest =>
      obtain ⟨i, re⟩ := hd
      obtain ⟨o', hs⟩ := planOk_step hp
      obtain ⟨hact, hni⟩ := hhead i re rest rfl
      have hact : acts o'.op = true := by
        rw [Array.getD_eq_getD_getElem?, hs.op] at hact
        exact hact
      have hiL : L.getD i false = false := by
        cases hL : L.getD i false with
        | false => rfl
        | true =>
          rcases (h.mem i).2 (.inl hL) with g | ⟨x, hx, e⟩
          · exact absurd g hs.fresh
          · exact absurd e (hni x hx)
      by_cases hji : j = i
      · subst hji
        have hoo : o = o' := by have := hs.op; rw [ho] at this; exact Option.some.inj this
        subst hoo
        have hapA : ∀ x ∈ as, o.apart ops x.o = true := fun x hx => by
          have ok := h.ahead x hx
          have hxr : x.j ∈ rest.map (·.1) := by
            have := hin x hx
            simp only [List.map_cons, List.mem_cons] at this
            rcases this with e | e
            · exact absurd e (hni x hx)
            · exact e
          rcases planOk_apart hs.rest j (by simp) x.j hxr with g | g
          · have := ok.waits j g
            rw [hunf] at this; cases this
          · rw [Array.getD_eq_getD_getElem?, ho, Array.getD_eq_getD_getElem?, ok.op] at g
            exact g
        have hsl : Slots β (o.looksAt ops) aI aR := RunP.slots (slots_apart hapA) h.hasAll h.run fun p hp1 => (Oper.apart_spec (hapP p hp1)).1
        have hQ := T.all_bind.1 hQ
        unfold iopAt at hQ
        rw [ho] at hQ
        simp only at hQ
        have hrest : planOk.go ops (waitsFor ops) rest (j :: done) (j :: acted) = true := by have := hs.rest; rw [hact] at this; simpa using this
        rw [hsl.wanted]
        cases hwt : Region.wanted o (yielded ops aI.tmps) with
        | true =>
          simp only [hwt, if_true] at hQ ⊢
          refine acts_in (hK w0) h.rel hsl.rho hact (T.all_bind.1 hQ) fun β2 v v' σ' w' hle hR' hv hq' => ?_
          obtain ⟨hre, hq'⟩ := recheck_then hq'
          exact ih rest (j :: done) (j :: acted) _ ps as w0 β2 σ' w' _ _ hcount hrest (h.act hs hact hapA hni hapPA hw hapPj hle hR' hv hre) hb hout (hle0.trans hle) hq'
        | false =>
          simp only [hwt, Bool.false_eq_true, if_false] at hQ ⊢
          obtain ⟨hre, hq'⟩ := recheck_then hQ
          exact ⟨fun _ _ => trivial, ih rest (j :: done) (j :: acted) _ ps as w0 β σ w _ _ hcount hrest (h.act hs hact hapA hni hapPA hw hapPj (.refl _) h.rel (undefVR β) hre) hb hout hle0 hq'⟩
      · have hjr : j ∈ rest.map (·.1) := by
          simp only [List.map_cons, List.mem_cons] at hjrest
          rcases hjrest with e | e
          · exact absurd e hji
          · exact e
        have hlate : lateOk ops (waitsFor ops) j o = true := by
          rcases planOk_waits hs.rest i (by rw [hact]; simp) j hjr with g | g
          · have := hwl i g
            rw [hiL] at this; cases this
          · rw [Array.getD_eq_getD_getElem?, ho] at g; exact g
        have hlo := (lateOk_acts hlate).1
        have hlw : ∀ q oq, ops[q]? = some oq → lateOp oq.op = true → ((waitsFor ops).getD j 0).testBit q = false := fun q oq hq hl => by
          simp only [lateOk, Bool.and_eq_true] at hlate
          have := List.all_eq_true.1 hlate.2 q (by simpa using (Array.getElem?_eq_some_iff.1 hq).1)
          rw [Array.getD_eq_getD_getElem? (xs := ops) (i := q), hq] at this
          simpa [hl] using this
        have hnw : ∀ k ∈ ((i, re) :: rest).map (·.1), ((waitsFor ops).getD j 0).testBit k = false := fun k hk => by
          cases hbt : ((waitsFor ops).getD j 0).testBit k with
          | false => rfl
          | true =>
            exfalso
            rcases (h.mem k).2 (.inl (hwl k hbt)) with g | ⟨x, hx, e⟩
            · have key : ∀ {p : Plan} {d a : List Nat}, planOk.go ops (waitsFor ops) p d a = true → k ∈ d → k ∉ p.map (·.1) := by
                intro p
                induction p with
                | nil => intro d a _ _ hm; simp at hm
                | cons hd p ihp =>
                  intro d a hpp hkd hm
                  obtain ⟨q, qr⟩ := hd
                  obtain ⟨oq, hsq⟩ := planOk_step hpp
                  simp only [List.map_cons, List.mem_cons] at hm
                  rcases hm with rfl | hm
                  · exact hsq.fresh hkd
                  · exact ihp hsq.rest (by simp [hkd]) hm
              exact key hp g hk
            · have ok := h.ahead x hx
              have := hlw x.j x.o ok.op (lateOk_acts ok.late).1
              rw [e, hbt] at this; cases this
        have htwo : ∀ x ∈ as, x.o.apart ops o = true ∨ o.apart ops x.o = true := fun x hx => by
          have ok := h.ahead x hx
          rcases planOk_two hp x.j (hin x hx) j hjrest (hnA x hx) with g | g | g | g
          · have := hlw x.j x.o ok.op (lateOk_acts ok.late).1
            rw [this] at g; cases g
          · have := ok.waits j g
            rw [hunf] at this; cases this
          · rw [Array.getD_eq_getD_getElem?, ok.op, Array.getD_eq_getD_getElem?, ho] at g; exact .inl g
          · rw [Array.getD_eq_getD_getElem?, ho, Array.getD_eq_getD_getElem?, ok.op] at g; exact .inr g
        have hdA : ∀ x ∈ as, ∀ d, x.o.dst = some d → o.dst ≠ some d ∧ d ∉ o.looksAt ops := fun x hx d hd => by
          rcases htwo x hx with g | g
          · obtain ⟨h1, h2, h3⟩ := Oper.apart_spec g
            exact ⟨h2 d hd, h1 d hd⟩
          · obtain ⟨h1, h2, h3⟩ := Oper.apart_spec g
            exact ⟨fun e => h2 d e hd, h3 d hd⟩
        have hsl : Slots β (o.looksAt ops) aI aR := RunP.slots (fun t ht hm => by
            obtain ⟨x, hx, hd⟩ := List.mem_filterMap.1 hm
            exact (hdA x hx t hd).2 ht) h.hasAll h.run fun p hp1 => (Oper.apart_spec (hapP p hp1)).1
        rw [hsl.wanted]
        cases hwt : Region.wanted o (yielded ops aI.tmps) with
        | true =>
          simp only [if_true]
          obtain ⟨cs, e, sh, hfo, hfit, hcon⟩ := will_lay (Q := Q) ho hlo hp hjrest hnw hQ hwt
          obtain ⟨cs', hfo', hcs⟩ := fresh_rel hfit hcon hsl.rho hfo
          have hrun := fresh_run hfo' w
          have hdef : ∀ c, o.op ≠ .defer c := fun c hc => by rw [hc] at hlo; cases hlo
          refine ⟨fun _ _ => trivial, ?_⟩
          rw [Oper.semAt_eq _ _ _ hdef, hrun]
          refine ih ((i, re) :: rest) done acted _ ps (as ++ [⟨j, o, aI, sh w.heap.size, w.heap.size⟩]) (w0.hold w.heap.size (.cells cs' e)) β σ _ aI _ hcount hp
            (h.early (x := ⟨j, o, aI, sh w.heap.size, w.heap.size⟩) ho hlate hnd hunf (fun p hp1 e => hpend ⟨p, hp1, e⟩) rfl hapP (fun y hy d hd => (hdA y hy d hd).1) hwl hw (fun y hy hwy => ?_) (fun y hy hwy _ => ?_) (.inr ⟨hwt, Or.inr rfl, h.rel.size, cs, cs', e, sh, hfo, hfit, rfl, by simp [Base.hold], hcs⟩) (h.rel.early _)) ⟨hb.1, fun k hk => ?_⟩ (fun x hx hwx => ?_) hle0 hQ
          · rcases (h.ahead y hy).res with r | ⟨r1, r2, _⟩
            · rw [r.1] at hwy; cases hwy
            · obtain ⟨z, hz, _⟩ := h.rel.held _ r2
              have hne : y.r ≠ w.heap.size := Nat.ne_of_lt (Array.getElem?_eq_some_iff.1 hz).1
              exact ⟨Or.inl r2, by simp only [Base.hold, if_neg hne]⟩
          · rcases (h.ahead y hy).res with r | ⟨r1, r2, _⟩
            · rw [r.1] at hwy; cases hwy
            · obtain ⟨z, hz, _⟩ := h.rel.held _ r2
              exact Nat.ne_of_lt (Array.getElem?_eq_some_iff.1 hz).1
          · obtain ⟨q1, q2⟩ := hb.2 k hk
            obtain ⟨z, hz, _⟩ := h.rel.held _ q1
            have hne : k ≠ w.heap.size := Nat.ne_of_lt (Array.getElem?_eq_some_iff.1 hz).1
            exact ⟨Or.inl q1, by simp only [Base.hold, if_neg hne]; exact q2⟩
          · rw [List.mem_append, List.mem_singleton] at hx
            rcases hx with hx | rfl
            · exact hout x hx hwx
            · intro hs0
              obtain ⟨z, hz, _⟩ := h.rel.held _ (hb.2 _ hs0).1
              exact absurd (Array.getElem?_eq_some_iff.1 hz).1 (Nat.lt_irrefl _)
        | false =>
          simp only [Bool.false_eq_true, if_false]
          refine ⟨fun _ _ => trivial, ?_⟩
          refine ih ((i, re) :: rest) done acted _ ps (as ++ [⟨j, o, aI, undef, 0⟩]) w0 β σ w aI _ hcount hp
            (h.early (x := ⟨j, o, aI, undef, 0⟩) ho hlate hnd hunf (fun p hp1 e => hpend ⟨p, hp1, e⟩) rfl hapP (fun y hy d hd => (hdA y hy d hd).1) hwl hw (fun y hy hwy => ?_) (fun y hy hwy hn => by simp only at hn; rw [hwt] at hn; cases hn) (.inl ⟨hwt, rfl⟩) h.rel) hb (fun x hx hwx => ?_) hle0 hQ
          · rcases (h.ahead y hy).res with r | ⟨r1, r2, _⟩
            · rw [r.1] at hwy; cases hwy
            · exact ⟨r2, rfl⟩
          · rw [List.mem_append, List.mem_singleton] at hx
            rcases hx with hx | rfl
            · exact hout x hx hwx
            · simp only at hwx; rw [hwt] at hwx; cases hwx

/-- The ideal run goes by all that it may; then something is to be shown. -/
theorem any_steps {w00 : Base} {fuel : Nat} (hstop : ∀ (rest : Plan) (done acted : List Nat) (L : Array Bool) (ps : List Item) (as : List AItem) (w0 : Base) (β : Beta) (σ w : World) (aI aR : Act), fuel = unl L → planOk.go ops (waitsFor ops) rest done acted = true →
      Inv P B w0 ops done L ps as β σ w aI aR → Base.le w00 w0 → (∀ x ∈ as, Region.wanted x.o (yielded ops x.A.tmps) = true → ¬ w00.S x.r) → β0.le β → (iplan P K ops rest aI σ).all Q →
      (∀ i re rest', rest = (i, re) :: rest' → acts (ops.getD i default).op = true ∧ ∀ x ∈ as, x.j ≠ i) → wpAnyIn (FF ro) n P .any ops Qx fuel L aR w) : Goal P B w00 ops K ro n Q Qx β0 fuel := by
  intro rest
  induction rest with
  | nil => intro done acted L ps as w0 β σ w aI aR hf hp h hb hout hle hQ; exact hstop _ _ _ _ _ _ _ _ _ _ _ _ hf hp h hb hout hle hQ (fun _ _ _ e => by cases e)
  | cons hd rest ihr =>
    intro done acted L ps as w0 β σ w aI aR hf hp h hb hout hle hQ
    obtain ⟨i, re⟩ := hd
    obtain ⟨o, hs⟩ := planOk_step hp
    obtain ⟨hin, hfar⟩ := h.far hp
    have hapPA : ∀ p ∈ ps, ∀ x ∈ as, p.o.apart ops x.o = true := fun p hp1 => hfar p.i p.o (h.item p hp1).op (h.inDone hp1) (h.off p hp1)
    cases ha : acts o.op with
    | true =>
      by_cases hah : ∃ x ∈ as, x.j = i
      · obtain ⟨x, hx, rfl⟩ := hah
        have okx := h.ahead x hx
        have hxo : x.o = o := by have := okx.op; rw [hs.op] at this; exact (Option.some.inj this).symm
        subst hxo
        obtain ⟨as1, as2, rfl⟩ := List.append_of_mem hx
        have hQ := T.all_bind.1 hQ
        unfold iopAt at hQ
        rw [hs.op] at hQ
        simp only at hQ
        have hrest : planOk.go ops (waitsFor ops) rest (x.j :: done) (x.j :: acted) = true := by have := hs.rest; rw [ha] at this; simpa using this
        have hwx : Region.wanted x.o (yielded ops aI.tmps) = Region.wanted x.o (yielded ops x.A.tmps) := (wanted_of_slots okx.look).symm
        have hsub : ∀ y ∈ as1 ++ as2, y ∈ as1 ++ x :: as2 := fun y hy => by
          rw [List.mem_append] at hy ⊢
          exact hy.imp id (List.mem_cons_of_mem _)
        have hne : ∀ y ∈ as1 ++ as2, y.j ≠ x.j ∧ (Region.wanted x.o (yielded ops x.A.tmps) = true → Region.wanted y.o (yielded ops y.A.tmps) = true → y.r ≠ x.r) := fun y hy => by
          have := h.once
          rw [List.pairwise_append] at this
          rw [List.mem_append] at hy
          rcases hy with hy | hy
          · have q := this.2.2 y hy x (by simp)
            exact ⟨q.1, fun w1 w2 e => q.2 _ w2 w1 e rfl⟩
          · have h2 := this.2.1
            rw [List.pairwise_cons] at h2
            have q := h2.1 y hy
            exact ⟨fun e => q.1 e.symm, fun w1 w2 e => q.2 _ w1 w2 rfl e⟩
        have hap2 : ∀ y ∈ as1 ++ as2, ∀ d, x.o.dst = some d → d ∉ y.o.looksAt ops := fun y hy d hd => by
          have oky := h.ahead y (hsub y hy)
          have hyr : y.j ∈ rest.map (·.1) := by
            have := hin y (hsub y hy)
            simp only [List.map_cons, List.mem_cons] at this
            rcases this with e | e
            · exact absurd e (hne y hy).1
            · exact e
          rcases planOk_apart hs.rest x.j (by simp) y.j hyr with g | g
          · have hl := oky.late
            simp only [lateOk, Bool.and_eq_true] at hl
            have := List.all_eq_true.1 hl.2 x.j (by simpa using (Array.getElem?_eq_some_iff.1 okx.op).1)
            rw [Array.getD_eq_getD_getElem? (xs := ops) (i := x.j), okx.op] at this
            simp only [Option.getD_some, (lateOk_acts okx.late).1, Bool.not_true, Bool.false_or, Bool.not_eq_true'] at this
            rw [this] at g; cases g
          · rw [Array.getD_eq_getD_getElem?, okx.op, Array.getD_eq_getD_getElem?, oky.op] at g
            exact (Oper.apart_spec g).1 d hd
        rcases okx.res with ⟨r0, r1⟩ | ⟨r1, r2, r3, cs, cs', e, sh, r4, r5, r6, r7, r8⟩
        · rw [hwx, r0] at hQ
          simp only [Bool.false_eq_true, if_false] at hQ
          obtain ⟨hre, hq'⟩ := recheck_then hQ
          refine ihr (x.j :: done) (x.j :: acted) L ps (as1 ++ as2) w0 β σ w _ aR hf hrest (h.late hs hapPA hap2 (fun y hy hwy => ?_) (.refl _) h.rel (by rw [r1]; exact undefVR β) hre) hb (fun y hy => hout y (hsub y hy)) hle hq'
          rcases (h.ahead y (hsub y hy)).res with r | ⟨_, q2, _⟩
          · rw [r.1] at hwy; cases hwy
          · exact ⟨q2, rfl⟩
        · rw [hwx, r1] at hQ
          simp only [if_true] at hQ
          have hfo : freshObj P x.o.op aI.eval = some (cs, e, sh) := by rw [← r4]; exact fresh_congr fun y hy => (eval_of_slots okx.look y hy).symm
          have hq := T.all_bind.1 (T.all_bind.1 hQ)
          obtain ⟨cs2, e2, sh2, g1, g2, _⟩ := fresh_of (lateOk_acts okx.late).1 hq
          rw [hfo] at g1
          simp only [Option.some.injEq, Prod.mk.injEq] at g1
          obtain ⟨rfl, rfl, rfl⟩ := g1
          obtain ⟨hre, hq'⟩ := recheck_then g2
          have hle2 := Beta.le_put (bi := ⟨x.r, 0, cs.size, ((P.info? e).map (·.size)).getD 0, cs.size⟩) h.rel.fresh
          refine ihr (x.j :: done) (x.j :: acted) L ps (as1 ++ as2) (w0.free x.r) _ _ w _ aR hf hrest (h.late hs hapPA hap2 (fun y hy hwy => ?_) hle2 (h.rel.late r2 r7 r3 r8) ?_ hre) ⟨hb.1, fun k hk => ?_⟩ (fun y hy => hout y (hsub y hy)) (hle.trans hle2) hq'
          · rcases (h.ahead y (hsub y hy)).res with r | ⟨_, q2, _⟩
            · rw [r.1] at hwy; cases hwy
            · exact ⟨⟨q2, (hne y hy).2 r1 hwy⟩, rfl⟩
          · rw [r6]
            refine fresh_shape r4 (fun t n p he => ?_) (b := σ.heap.size) (bi := ⟨x.r, 0, cs.size, ((P.info? e).map (·.size)).getD 0, cs.size⟩) (by unfold Beta.put; rw [if_pos rfl]) rfl rfl
            rw [he] at r5
            simp only [lateFit, Bool.and_eq_true, decide_eq_true_eq] at r5
            exact r5.2
          · obtain ⟨q1, q2⟩ := hb.2 k hk
            exact ⟨⟨q1, fun e => hout x hx r1 (e ▸ hk)⟩, q2⟩
      · exact hstop _ _ _ _ _ _ _ _ _ _ _ _ hf hp h hb hout hle hQ (fun i' re' rest' e => by
          simp only [List.cons.injEq, Prod.mk.injEq] at e
          obtain ⟨⟨rfl, _⟩, _⟩ := e
          exact ⟨by rw [Array.getD_eq_getD_getElem?, hs.op]; exact ha, fun x hx e => hah ⟨x, hx, e⟩⟩)
    | false =>
      have hQ := T.all_bind.1 hQ
      unfold iopAt at hQ
      rw [hs.op] at hQ
      simp only at hQ
      have hrest := hs.rest
      rw [ha] at hrest
      simp only [Bool.false_eq_true, if_false] at hrest
      have hna : ∀ x ∈ as, x.j ≠ i := fun x hx e => by
        have ok := h.ahead x hx
        have := ok.op
        rw [e, hs.op] at this
        simp only [Option.some.injEq] at this
        have h2 := (lateOk_acts ok.late).2
        rw [← this, ha] at h2; cases h2
      have hiL : L.getD i false = false := by
        cases hL : L.getD i false with
        | false => rfl
        | true =>
          rcases (h.mem i).2 (.inl hL) with g | ⟨x, hx, e⟩
          · exact absurd g hs.fresh
          · exact absurd e (hna x hx)
      have hapA : ∀ x ∈ as, o.apart ops x.o = true := fun x hx => by
        have ok := h.ahead x hx
        have hxr : x.j ∈ rest.map (·.1) := by
          have := hin x hx
          simp only [List.map_cons, List.mem_cons] at this
          rcases this with e | e
          · exact absurd e (hna x hx)
          · exact e
        rcases planOk_apart hs.rest i (by simp) x.j hxr with g | g
        · have := ok.waits i g
          rw [hiL] at this; cases this
        · rw [Array.getD_eq_getD_getElem?, hs.op, Array.getD_eq_getD_getElem?, ok.op] at g
          exact g
      obtain ⟨aV, hV⟩ := RunP.virtual h.hasAll h.run
      have hsl := hV.slots (slots_apart hapA)
      cases hwt : Region.wanted o (yielded ops aI.tmps) with
      | true =>
        simp only [hwt, if_true] at hQ
        have hQ := T.all_bind.1 (T.all_bind.1 hQ)
        rcases flat_istep (P := P) (ρ := aI.eval) (o := o) (σ := σ) ha with ⟨p, hpr⟩ | hbad
        · obtain ⟨v, v', q, _, hv⟩ := still_istep hsl.rho ha h.rel (Q := fun x => x = p) (by rw [hpr]; rfl)
          rw [hpr, ← q] at hQ
          obtain ⟨_, hq'⟩ := recheck_then hQ
          refine ihr (i :: done) acted L (ps ++ [⟨i, o, aI, v⟩]) as w0 β σ w _ aR hf hrest (h.push hs ha hapA hna ?_ ⟨v', hv⟩) hb hout hle hq'
          refine .inl ⟨hwt, ?_⟩
          cases hrd : reads o.op with
          | true => exact .inl ⟨rfl, by rw [hpr, ← q]⟩
          | false => exact .inr ⟨rfl, σ, by rw [hpr, ← q]⟩
        · rw [hbad] at hQ; exact hQ.elim
      | false =>
        simp only [hwt, Bool.false_eq_true, if_false] at hQ
        obtain ⟨_, hq'⟩ := recheck_then hQ
        exact ihr (i :: done) acted L (ps ++ [⟨i, o, aI, undef⟩]) as w0 β σ w _ aR hf hrest (h.push hs ha hapA hna (.inr ⟨hwt, rfl⟩) ⟨undef, undefVR β⟩) hb hout hle hq'

/-- All is done. -/
theorem Inv.finish {done acted : List Nat} {L : Array Bool} {ps : List Item} {as : List AItem} {β : Beta} {σ w : World} {aI aR : Act} {rest : Plan} (h : Inv P B w0 ops done L ps as β σ w aI aR)
    (hp : planOk.go ops (waitsFor ops) rest done acted = true) (hall : ∀ i, i < ops.size → L.getD i false = true) (hhead : ∀ i re rest', rest = (i, re) :: rest' → ∀ x ∈ as, x.j ≠ i) : ps = [] ∧ rest = [] ∧ as = [] := by
  have h1 : ps = [] := by
    rw [List.eq_nil_iff_forall_not_mem]
    intro it hi
    have := hall it.i (Array.getElem?_eq_some_iff.1 (h.item it hi).op).1
    rw [h.off it hi] at this
    cases this
  have h2 : rest = [] := by
    cases rest with
    | nil => rfl
    | cons hd rest =>
      obtain ⟨i, re⟩ := hd
      obtain ⟨o, hs⟩ := planOk_step hp
      rcases (h.mem i).2 (.inl (hall i (Array.getElem?_eq_some_iff.1 hs.op).1)) with g | ⟨x, hx, e⟩
      · exact absurd g hs.fresh
      · exact absurd e (hhead i re rest rfl x hx)
  refine ⟨h1, h2, ?_⟩
  rw [List.eq_nil_iff_forall_not_mem]
  intro x hx
  have := (h.far hp).1 x hx
  rw [h2] at this
  simp at this

theorem any_in {w00 : Base} (hK : ∀ w0, KS P B w0 K) (hback : BackO ops) (hq : ∀ β2 a a' σ' w', β0.le β2 → R P B w00 β2 σ' w' → ActR β2 a a' → Q (a, σ') → Qx .normal a' w') :
    ∀ fuel, Goal P B w00 ops K ro n Q Qx β0 fuel := by
  have fin : ∀ {rest : Plan} {done acted : List Nat} {L : Array Bool} {ps : List Item} {as : List AItem} {w0 : Base} {β : Beta} {σ w : World} {aI aR : Act}, planOk.go ops (waitsFor ops) rest done acted = true →
      Inv P B w0 ops done L ps as β σ w aI aR → Base.le w00 w0 → β0.le β → (iplan P K ops rest aI σ).all Q → (∀ i re rest', rest = (i, re) :: rest' → acts (ops.getD i default).op = true ∧ ∀ x ∈ as, x.j ≠ i) →
      (∀ i, i < ops.size → L.getD i false = true) → Qx .normal aR w := by
    intro rest done acted L ps as w0 β σ w aI aR hp h hb hle hQ hhead hall
    obtain ⟨h1, h2, h3⟩ := h.finish hp hall (fun i re rest' e => (hhead i re rest' e).2)
    subst h1; subst h2; subst h3
    exact hq _ _ _ _ _ hle (R.weaken hb h.rel) (ActX.whole h.run) hQ
  intro fuel
  induction fuel with
  | zero =>
    refine any_steps fun rest done acted L ps as w0 β σ w aI aR hf hp h hb hout hle hQ hhead => ?_
    have hall : ∀ i, i < ops.size → L.getD i false = true := fun i hi => unl_zero hf.symm i (by rw [h.size]; exact hi)
    refine ⟨?_, fin hp h hb hle hQ hhead hall⟩
    rw [List.eq_nil_iff_forall_not_mem]
    intro j hj
    obtain ⟨hun, o, ho, _⟩ := mem_ready.1 hj
    have hjlt : j < ops.size := (Array.getElem?_eq_some_iff.1 ho).1
    have := hall j hjlt
    rw [Array.getD_eq_getD_getElem?] at this hun
    rw [Array.getElem?_eq_getElem (by rw [h.size]; exact hjlt)] at this hun
    simp only [Option.getD_some] at this
    rw [this] at hun; cases hun
  | succ fuel ih =>
    refine any_steps fun rest done acted L ps as w0 β σ w aI aR hf hp h hb hout hle hQ hhead => ?_
    exact ⟨fun hr => fin hp h hb hle hQ hhead fun i hi => all_listed hback h.size hr i i (Nat.le_refl _) hi, fun j hj => any_core hK hback ih hf hp h hb hout hle hQ hhead hj⟩

/-- A region. -/
theorem region_in (hm : P.follows .mixedOrders = true) (hK : ∀ w0, KS P B w0 K) {id : Nat} {draw : Bool} {β : Beta} {aI aR : Act} {σ w : World} (hR : R P B w0 β σ w) (hA : ActR β aI aR) (hQ : (iregion P K ops draw aI σ).all Q)
    (hq : ∀ β2 a a' σ' w', β.le β2 → R P B w0 β2 σ' w' → ActR β2 a a' → Q (a, σ') → Qx .normal a' w') : (Code.region id ops draw).wpIn (FF ro) n P Qx aR w := by
  unfold iregion at hQ
  cases draw with
  | false => exact wpIn_region (iops_in (hK w0) _ hR hA hQ hq)
  | true =>
    simp only [if_true] at hQ
    split at hQ
    · rename_i hok
      unfold planOk at hok
      simp only [Bool.and_eq_true, decide_eq_true_eq] at hok
      refine wpIn_region_any hm ?_
      have hback : BackO ops := fun i o ho => planOk_back hok.2 i (planOk_mem hok.2 i (Array.getElem?_eq_some_iff.1 ho).1 (by simp)) o ho
      refine any_in hK hback hq ops.size (mkPlan ops) [] [] _ [] [] w0 β σ _ aI aR ?_ hok.2 ⟨hR.drew, by simp, (fun it hi => by cases hi), ActX.of hA, List.Pairwise.nil, List.nodup_nil, (fun it hi => by cases hi), fun i => ?_, fun i o hi => ?_, (fun x hx => by cases hx), List.Pairwise.nil, List.Pairwise.nil⟩ (.refl _) (fun x hx => by cases hx) (.refl _) hQ
      · unfold unl
        rw [Array.size_replicate, List.countP_eq_length.2, List.length_range]
        intro i hi
        rw [Array.getD_eq_getD_getElem?, Array.getElem?_replicate]
        split <;> rfl
      · constructor
        · rintro (hi | ⟨x, hx, _⟩)
          · cases hi
          · cases hx
        · rintro (hi | ⟨it, hi, _⟩)
          · rw [Array.getD_eq_getD_getElem?, Array.getElem?_replicate] at hi
            split at hi <;> cases hi
          · cases hi
      · rw [Array.getD_eq_getD_getElem?, Array.getElem?_replicate] at hi
        split at hi <;> cases hi
    · exact hQ.elim
end
end Go.Ideal
