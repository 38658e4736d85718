/-
  Regions that draw their order: the law.
-/
import Derived.Test.YtffabgkkaojnhaaIv
namespace Go.Ideal
open Go
section
variable {P : Program} {B : Nat} {w0 : World} {ops : Array Oper}

def BackO (ops : Array Oper) : Prop := ∀ i o, ops[i]? = some o → ∀ e ∈ o.after, Region.binds .any e = true → e.on < i

theorem all_listed (hback : BackO ops) {L : Array Bool} (hsz : L.size = ops.size) (hr : Region.ready .any ops L = []) : ∀ (k i : Nat), i ≤ k → i < ops.size → L.getD i false = true := by
  intro k
  induction k with
  | zero =>
    intro i hi hlt
    cases hL : L.getD i false with
    | true => rfl
    | false =>
      have : i ∈ Region.ready .any ops L := mem_ready.2 ⟨by rw [Array.getD_eq_getD_getElem?] at hL ⊢; rw [Array.getElem?_eq_getElem (by omega)] at hL ⊢; exact hL, ops[i], by simp [hlt], fun e he hb => by
        have := hback i ops[i] (by simp [hlt]) e he hb; omega⟩
      rw [hr] at this; cases this
  | succ k ih =>
    intro i hi hlt
    cases hL : L.getD i false with
    | true => rfl
    | false =>
      have : i ∈ Region.ready .any ops L := mem_ready.2 ⟨by rw [Array.getD_eq_getD_getElem?] at hL ⊢; rw [Array.getElem?_eq_getElem (by omega)] at hL ⊢; exact hL, ops[i], by simp [hlt], fun e he hb => by
        have := hback i ops[i] (by simp [hlt]) e he hb
        exact ih e.on (by omega) (by omega)⟩
      rw [hr] at this; cases this

variable {K : Kont} {ro : Option Nat} {n : Nat} {Q : Act × World → Prop} {Qx : Exit → Act → World → Prop} {β0 : Beta}

/-- Nothing left to do. -/
theorem Inv.finish {done acted : List Nat} {L : Array Bool} {ps : List Item} {β : Beta} {σ w : World} {aI aR : Act} {rest : Plan} (h : Inv P B w0 ops done L ps β σ w aI aR)
    (hp : planOk.go ops (waitsFor ops) rest done acted = true) (hall : ∀ i, i < ops.size → L.getD i false = true) : ps = [] ∧ rest = [] := by
  constructor
  · rw [List.eq_nil_iff_forall_not_mem]
    intro it hi
    have := hall it.i (Array.getElem?_eq_some_iff.1 (h.item it hi).op).1
    rw [h.off it hi] at this
    cases this
  · cases rest with
    | nil => rfl
    | cons hd rest =>
      obtain ⟨i, re⟩ := hd
      obtain ⟨o, hs⟩ := planOk_step hp
      exact absurd ((h.mem i).2 (.inl (hall i (Array.getElem?_eq_some_iff.1 hs.op).1))) hs.fresh

/-- What is to be shown, where so many operations are left. -/
def Goal (P : Program) (B : Nat) (w0 : World) (ops : Array Oper) (K : Kont) (ro : Option Nat) (n : Nat) (Q : Act × World → Prop) (Qx : Exit → Act → World → Prop) (β0 : Beta) (fuel : Nat) : Prop :=
  ∀ (rest : Plan) (done acted : List Nat) (L : Array Bool) (ps : List Item) (β : Beta) (σ w : World) (aI aR : Act), fuel = ps.length + rest.length → planOk.go ops (waitsFor ops) rest done acted = true →
    Inv P B w0 ops done L ps β σ w aI aR → β0.le β → (iplan P K ops rest aI σ).all Q → wpAnyIn (FF ro) n P .any ops Qx fuel L aR w

theorem recheck_then {re : List Nat} {rest : Plan} {a : Act} {σ : World} (h : (if recheck P ops a σ re = true then iplan P K ops rest a σ else .bad).all Q) : recheck P ops a σ re = true ∧ (iplan P K ops rest a σ).all Q := by
  split at h
  · exact ⟨‹_›, h⟩
  · exact h.elim

/-- One that is ready is run: it pends, or it is the next that acts. -/
theorem any_core (hK : KS P B w0 K) (hback : BackO ops) {fuel : Nat} (ih : Goal P B w0 ops K ro n Q Qx β0 fuel) {rest : Plan} {done acted : List Nat} {L : Array Bool} {ps : List Item} {β : Beta} {σ w : World} {aI aR : Act}
    (hf : fuel + 1 = ps.length + rest.length) (hp : planOk.go ops (waitsFor ops) rest done acted = true) (h : Inv P B w0 ops done L ps β σ w aI aR) (hle0 : β0.le β) (hQ : (iplan P K ops rest aI σ).all Q)
    (hhead : ∀ i re rest', rest = (i, re) :: rest' → acts (ops.getD i default).op = true) {j : Nat} (hj : j ∈ Region.ready .any ops L) :
    wpOpIn (FF ro) n P ops Qx j (wpAnyIn (FF ro) n P .any ops Qx fuel (L.setIfInBounds j true)) aR w := by
  obtain ⟨hun, o, ho, hw⟩ := mem_ready.1 hj
  have hjlt : j < ops.size := (Array.getElem?_eq_some_iff.1 ho).1
  have hunf : L.getD j false = false := by
    rw [Array.getD_eq_getD_getElem?] at hun ⊢
    rw [Array.getElem?_eq_getElem (by rw [h.size]; exact hjlt)] at hun ⊢
    exact hun
  have hwl : ∀ r, ((waitsFor ops).getD j 0).testBit r = true → L.getD r false = true :=
    waits_listed (L := fun r => L.getD r false = true) hback (fun i o hi ho => h.down i o hi ho) j j o (Nat.le_refl _) ho hw
  unfold wpOpIn
  rw [ho]
  simp only
  by_cases hpend : ∃ it ∈ ps, it.i = j
  · obtain ⟨it, hit, rfl⟩ := hpend
    obtain ⟨ps1, ps2, rfl⟩ := List.append_of_mem hit
    have ok := h.item it hit
    have hio : it.o = o := by have := ok.op; rw [ho] at this; exact (Option.some.inj this).symm
    subst hio
    have hap : ∀ p ∈ ps1, p.o.apart ops it.o = true := fun p hp1 => by
      have hpair := h.pair
      rw [List.pairwise_append] at hpair
      rcases hpair.2.2 p hp1 it (by simp) with g | g
      · have := hwl _ g
        rw [h.off p (by simp [hp1])] at this
        cases this
      · exact g
    obtain ⟨hsl, hcont⟩ := RunP.take h.hasAll hap h.run
    have hgo : ∀ v', VR β it.v v' → wpAnyIn (FF ro) n P .any ops Qx fuel (L.setIfInBounds it.i true) (aR.put it.o.dst v') w := fun v' hv => by
      have hrun := hcont β v' (.refl _) hv
      exact ih rest done acted _ (ps1 ++ ps2) β σ w aI _ (by simp at hf ⊢; omega) hp (h.take hw hrun) hle0 hQ
    rw [hsl.wanted]
    rcases ok.val with ⟨hwt, ⟨hrd, hst⟩ | ⟨hrd, σ0, hst⟩⟩ | ⟨hwt, hv⟩
    · rw [hwt, if_pos rfl]
      obtain ⟨u, v', q, hrun, hv⟩ := read_istep hsl.rho hrd h.rel (Q := fun p => p = (.value it.v, σ)) (by rw [hst]; rfl)
      simp only [Prod.mk.injEq, Next.value.injEq] at q
      rw [q.1] at hv
      exact still_in (istep_noDefer (P := P) (ρ := it.A.eval) (σ := σ) (Q := fun _ => True) (by rw [hst]; trivial)) hrun (hgo v' hv)
    · rw [hwt, if_pos rfl]
      obtain ⟨u, v', q, hrun, hv⟩ := pure_istep hsl.rho ok.still hrd σ0 w (Q := fun p => p = (.value it.v, σ0)) (by rw [hst]; rfl)
      simp only [Prod.mk.injEq, Next.value.injEq] at q
      rw [q.1] at hv
      exact still_in (istep_noDefer (P := P) (ρ := it.A.eval) (σ := σ0) (Q := fun _ => True) (by rw [hst]; trivial)) hrun (hgo v' hv)
    · rw [hwt]
      simp only [Bool.false_eq_true, if_false]
      exact ⟨fun _ _ => trivial, hgo undef (by rw [hv]; exact undefVR β)⟩
  · have hnd : j ∉ done := fun hd => by
      rcases (h.mem j).1 hd with g | g
      · rw [hunf] at g; cases g
      · exact hpend g
    cases rest with
    | nil =>
      have := planOk_mem hp j hjlt hnd
      simp at this
    | cons hd rest =>
      obtain ⟨i, re⟩ := hd
      obtain ⟨o', hs⟩ := planOk_step hp
      have hact : acts o'.op = true := by
        have := hhead i re rest rfl
        rw [Array.getD_eq_getD_getElem?, hs.op] at this
        exact this
      have hji : j = i := by
        have := planOk_mem hp j hjlt hnd
        simp only [List.map_cons, List.mem_cons] at this
        rcases this with e | hm
        · exact e
        · have hw2 := planOk_waits hs.rest i (by rw [hact]; simp) j hm
          exact absurd ((h.mem i).2 (.inl (hwl i hw2))) hs.fresh
      subst hji
      have hoo : o = o' := by have := hs.op; rw [ho] at this; exact Option.some.inj this
      subst hoo
      have hap : ∀ p ∈ ps, ((waitsFor ops).getD j 0).testBit p.i = false := fun p hp1 => by
        cases hb : ((waitsFor ops).getD j 0).testBit p.i with
        | false => rfl
        | true =>
          have := hwl _ hb
          rw [h.off p hp1] at this
          cases this
      have hapart : ∀ p ∈ ps, p.o.apart ops o = true := fun p hp1 => by
        rcases hs.apart p.i (h.inDone hp1) with g | g
        · rw [hap p hp1] at g; cases g
        · rw [Array.getD_eq_getD_getElem?, (h.item p hp1).op] at g; exact g
      have hsl : Slots β (o.looksAt ops) aI aR := RunP.slots h.hasAll h.run fun p hp1 => (Oper.apart_spec (hapart p hp1)).1
      have hQ := T.all_bind.1 hQ
      unfold iopAt at hQ
      rw [ho] at hQ
      simp only at hQ
      have hrest : planOk.go ops (waitsFor ops) rest (j :: done) (j :: acted) = true := by have := hs.rest; rw [hact] at this; simpa using this
      rw [hsl.wanted]
      cases hwt : Region.wanted o (yielded ops aI.tmps) with
      | true =>
        simp only [hwt, if_true] at hQ ⊢
        refine acts_in hK h.rel hsl.rho hact (T.all_bind.1 hQ) fun β2 v v' σ' w' hle hR' hv hq' => ?_
        obtain ⟨hre, hq'⟩ := recheck_then hq'
        exact ih rest (j :: done) (j :: acted) _ ps β2 σ' w' _ _ (by simp at hf; omega) hrest (h.act hs hact hw hap hle hR' hv hre) (hle0.trans hle) hq'
      | false =>
        simp only [hwt, Bool.false_eq_true, if_false] at hQ ⊢
        obtain ⟨hre, hq'⟩ := recheck_then hQ
        exact ⟨fun _ _ => trivial, ih rest (j :: done) (j :: acted) _ ps β σ w _ _ (by simp at hf; omega) hrest (h.act hs hact hw hap (.refl _) h.rel (undefVR β) hre) hle0 hq'⟩

theorem any_in (hK : KS P B w0 K) (hback : BackO ops) (hq : ∀ β2 a a' σ' w', β0.le β2 → R P B w0 β2 σ' w' → ActR β2 a a' → Q (a, σ') → Qx .normal a' w') :
    ∀ fuel, Goal P B w0 ops K ro n Q Qx β0 fuel := by
  intro fuel
  induction fuel with
  | zero =>
    intro rest done acted L ps β σ w aI aR hf hp h hle hQ
    have h1 : ps = [] := List.length_eq_zero_iff.1 (by omega)
    have h2 : rest = [] := List.length_eq_zero_iff.1 (by omega)
    subst h1; subst h2
    refine ⟨?_, hq _ _ _ _ _ hle h.rel h.run hQ⟩
    rw [List.eq_nil_iff_forall_not_mem]
    intro j hj
    obtain ⟨hun, o, ho, _⟩ := mem_ready.1 hj
    have hjlt : j < ops.size := (Array.getElem?_eq_some_iff.1 ho).1
    unfold planOk.go at hp
    have hd := List.all_eq_true.1 hp j (by simpa using hjlt)
    have hd : j ∈ done := by simpa using hd
    rcases (h.mem j).1 hd with g | ⟨it, hi, _⟩
    · rw [Array.getD_eq_getD_getElem?] at g hun
      rw [Array.getElem?_eq_getElem (by rw [h.size]; exact hjlt)] at g hun
      simp only [Option.getD_some] at g hun
      rw [g] at hun; cases hun
    · cases hi
  | succ fuel ih =>
    intro rest
    induction rest with
    | nil =>
      intro done acted L ps β σ w aI aR hf hp h hle hQ
      refine ⟨fun hr => ?_, fun j hj => any_core hK hback ih hf hp h hle hQ (fun _ _ _ e => by cases e) hj⟩
      obtain ⟨h1, _⟩ := h.finish hp fun i hi => all_listed hback h.size hr i i (Nat.le_refl _) hi
      subst h1
      exact hq _ _ _ _ _ hle h.rel h.run hQ
    | cons hd rest ihr =>
      intro done acted L ps β σ w aI aR hf hp h hle hQ
      obtain ⟨i, re⟩ := hd
      obtain ⟨o, hs⟩ := planOk_step hp
      cases ha : acts o.op with
      | true =>
        refine ⟨fun hr => ?_, fun j hj => any_core hK hback ih hf hp h hle hQ (fun i' re' rest' e => by
          simp only [List.cons.injEq, Prod.mk.injEq] at e
          obtain ⟨⟨rfl, _⟩, _⟩ := e
          rw [Array.getD_eq_getD_getElem?, hs.op]; exact ha) hj⟩
        obtain ⟨_, h2⟩ := h.finish hp fun i hi => all_listed hback h.size hr i i (Nat.le_refl _) hi
        cases h2
      | false =>
        have hQ := T.all_bind.1 hQ
        unfold iopAt at hQ
        rw [hs.op] at hQ
        simp only at hQ
        have hrest := hs.rest
        rw [ha] at hrest
        simp only [Bool.false_eq_true, if_false] at hrest
        obtain ⟨aV, hV⟩ := RunP.virtual h.hasAll h.run
        have hsl := hV.slots (o.looksAt ops)
        cases hwt : Region.wanted o (yielded ops aI.tmps) with
        | true =>
          simp only [hwt, if_true] at hQ
          have hQ := T.all_bind.1 (T.all_bind.1 hQ)
          rcases flat_istep (P := P) (ρ := aI.eval) (o := o) (σ := σ) ha with ⟨p, hpr⟩ | hbad
          · obtain ⟨v, v', q, _, hv⟩ := still_istep hsl.rho ha h.rel (Q := fun x => x = p) (by rw [hpr]; rfl)
            rw [hpr, ← q] at hQ
            obtain ⟨_, hq'⟩ := recheck_then hQ
            refine ihr (i :: done) acted L (ps ++ [⟨i, o, aI, v⟩]) β σ w _ aR (by simp at hf ⊢; omega) hrest (h.push hs ha ?_ ⟨v', hv⟩) hle hq'
            refine .inl ⟨hwt, ?_⟩
            cases hrd : reads o.op with
            | true => exact .inl ⟨rfl, by rw [hpr, ← q]⟩
            | false => exact .inr ⟨rfl, σ, by rw [hpr, ← q]⟩
          · rw [hbad] at hQ; exact hQ.elim
        | false =>
          simp only [hwt, Bool.false_eq_true, if_false] at hQ
          obtain ⟨_, hq'⟩ := recheck_then hQ
          exact ihr (i :: done) acted L (ps ++ [⟨i, o, aI, undef⟩]) β σ w _ aR (by simp at hf ⊢; omega) hrest (h.push hs ha (.inr ⟨hwt, rfl⟩) ⟨undef, undefVR β⟩) hle hq'

/-- A region. -/
theorem region_in (hm : P.follows .mixedOrders = true) (hK : KS P B w0 K) {id : Nat} {draw : Bool} {β : Beta} {aI aR : Act} {σ w : World} (hR : R P B w0 β σ w) (hA : ActR β aI aR) (hQ : (iregion P K ops draw aI σ).all Q)
    (hq : ∀ β2 a a' σ' w', β.le β2 → R P B w0 β2 σ' w' → ActR β2 a a' → Q (a, σ') → Qx .normal a' w') : (Code.region id ops draw).wpIn (FF ro) n P Qx aR w := by
  unfold iregion at hQ
  cases draw with
  | false => exact wpIn_region (iops_in hK _ hR hA hQ hq)
  | true =>
    simp only [if_true] at hQ
    split at hQ
    · rename_i hok
      unfold planOk at hok
      simp only [Bool.and_eq_true, decide_eq_true_eq] at hok
      refine wpIn_region_any hm ?_
      have hback : BackO ops := fun i o ho => planOk_back hok.2 i (planOk_mem hok.2 i (Array.getElem?_eq_some_iff.1 ho).1 (by simp)) o ho
      refine any_in hK hback hq ops.size (mkPlan ops) [] [] _ [] β σ _ aI aR (by simp [hok.1]) hok.2 ⟨hR.drew, by simp, (fun it hi => by cases hi), hA, List.Pairwise.nil, List.nodup_nil, (fun it hi => by cases hi), fun i => ?_, fun i o hi => ?_⟩ (.refl _) hQ
      · constructor
        · intro hi; cases hi
        · rintro (hi | ⟨it, hi, _⟩)
          · rw [Array.getD_eq_getD_getElem?, Array.getElem?_replicate] at hi
            split at hi <;> cases hi
          · cases hi
      · rw [Array.getD_eq_getD_getElem?, Array.getElem?_replicate] at hi
        split at hi <;> cases hi
    · exact hQ.elim
end
end Go.Ideal
