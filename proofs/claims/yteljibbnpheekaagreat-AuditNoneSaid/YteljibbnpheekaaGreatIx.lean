/-
  Code, calls and rounds: the law that ties the ideal run to the machine.
-/
import Derived.Sort.LoopGhostIn
import Derived.Test.YteljibbnpheekaaGreatIs
import Derived.ProofKit
import Derived.Carry
namespace Go.Ideal
open Go
section
variable {P : Program} {B : Nat} {w0 : Base} {β : Beta}
def RoR (β : Beta) : Option Nat → Option Nat → Prop
  | none, none => True
  | some l, some r => ∃ bi, β l = some bi ∧ r = bi.r
  | _, _ => False
theorem RoR.mono {β β' : Beta} (h : β.le β') : ∀ {a b : Option Nat}, RoR β a b → RoR β' a b
  | none, none, _ => trivial
  | some _, some _, ⟨bi, h1, h2⟩ => ⟨bi, h _ _ h1, h2⟩
  | none, some _, h => h.elim
  | some _, none, h => h.elim
theorem DR.append {β : Beta} : ∀ {a b c d : List Deferred}, DR β a b → DR β c d → DR β (a ++ c) (b ++ d)
  | [], [], _, _, _, h => h
  | _ :: _, _ :: _, _, _, h, k => ⟨h.1, DR.append h.2 k⟩
  | [], _ :: _, _, _, h, _ => h.elim
  | _ :: _, [], _, _, h, _ => h.elim
theorem sim_enterLoop (fn fn' : FuncId) {tmps tmps' : Array Value} (ps : Array Tmp) (assign body : Code) {ro ro' : Option Nat} (ht : AR β tmps tmps') (hro : RoR β ro ro') :
    Sim P B w0 β (Instr.enterLoop fn tmps ps assign body ro) (Instr.enterLoop fn' tmps' ps assign body ro') (fun β x x' => (∃ bi, β x.1 = some bi ∧ x'.1 = bi.r) ∧ DR β x.2 x'.2) := by
  unfold Instr.enterLoop
  have tail : ∀ {β1 : Beta} {d : Nat} {bd : BI} {m m' : List Deferred}, β.le β1 → β1 d = some bd → DR β1 m m' →
      Sim P B w0 β1 (do let __do_lift ← newObj (.loop { state := .ready, pending := none, fn := fn, tmps := tmps, params := ps, assign := assign, body := body, defers := d }); pure (__do_lift, m))
        (do let __do_lift ← newObj (.loop { state := .ready, pending := none, fn := fn', tmps := tmps', params := ps, assign := assign, body := body, defers := bd.r }); pure (__do_lift, m'))
        (fun β (x x' : Nat × List Deferred) => (∃ bi, β x.1 = some bi ∧ x'.1 = bi.r) ∧ DR β x.2 x'.2) := by
    intro β1 d bd m m' hle h1 h3
    refine Sim.bind (sim_newObj (fun β2 r hle2 => .loop (hle2 _ _ h1) (ht.mono (hle.trans hle2))) (fun _ _ _ h => by cases h)) fun β2 l l' hle2 hl => ?_
    obtain ⟨bi, h4, rfl, _⟩ := hl
    exact Sim.pure fun β3 hle3 => ⟨⟨bi, hle3 _ _ h4, rfl⟩, h3.mono (hle2.trans hle3)⟩
  dsimp only
  cases ro with
  | none =>
    cases ro' with
    | some _ => exact hro.elim
    | none =>
      dsimp only
      refine Sim.bind (sim_newObj (o := .deferred (some [])) (o' := .deferred (some [])) (fun _ _ _ => .deferred) (fun _ _ _ h => by cases h)) fun β1 r r' hle hr => ?_
      obtain ⟨bi, h1, rfl, _⟩ := hr
      simp only [pure_bind]
      exact tail hle h1 ⟨⟨r, bi, rfl, rfl, h1⟩, trivial⟩
  | some l =>
    cases ro' with
    | none => exact hro.elim
    | some l' =>
      obtain ⟨bi, hl, rfl⟩ := hro
      dsimp only
      refine Sim.bind (sim_getLoop hl) fun β1 r r' hle hr => ?_
      cases hr with
      | loop hd _ =>
        simp only [pure_bind]
        exact tail hle hd trivial
theorem sim_beginRound {l : Nat} {bi : BI} (hl : β l = some bi) : Sim P B w0 β (Instr.beginRound l) (Instr.beginRound bi.r) (fun _ _ _ => True) := by
  unfold Instr.beginRound
  refine Sim.bind (sim_getLoop hl) fun β1 r r' hle hr => ?_
  cases hr with
  | @loop st pe fn fn' tmps tmps' ps assign body df bd hd ht =>
    refine Sim.bind (sim_setObj (hle _ _ hl) (.loop hd ht) rfl (fun _ _ _ h => by cases h)) fun β2 _ _ hle2 _ => ?_
    cases st with
    | ready => exact Sim.pure fun _ _ => trivial
    | _ => exact Sim.never (never_runtimePanic _)
theorem sim_endRound {l : Nat} {bi : BI} (hl : β l = some bi) (jump : Option Code) : Sim P B w0 β (Instr.endRound l jump) (Instr.endRound bi.r jump) VR := by
  unfold Instr.endRound
  refine Sim.bind (sim_getLoop hl) fun β1 r r' hle hr => ?_
  cases hr with
  | @loop st pe fn fn' tmps tmps' ps assign body df bd hd ht =>
    exact Sim.bind (sim_setObj (hle _ _ hl) (.loop hd ht) rfl (fun _ _ _ h => by cases h)) fun β2 _ _ hle2 _ => Sim.pure fun _ _ => .bool _
theorem sim_endLoop {l : Nat} {bi : BI} (hl : β l = some bi) : Sim P B w0 β (Instr.endLoop l) (Instr.endLoop bi.r) (fun _ x y => x = y) := by
  unfold Instr.endLoop
  refine Sim.bind (sim_getLoop hl) fun β1 r r' hle hr => ?_
  cases hr with
  | @loop st pe fn fn' tmps tmps' ps assign body df bd hd ht =>
    dsimp only
    split
    · exact Sim.never (never_left (never_runtimePanic _))
    · exact Sim.bind (sim_setObj (hle _ _ hl) (.loop hd ht) rfl (fun _ _ _ h => by cases h)) fun β2 _ _ hle2 _ => Sim.pure fun _ _ => rfl
theorem sim_takeDeferred {l : Nat} {bi : BI} (hl : β l = some bi) : Sim P B w0 β (Instr.takeDeferred l) (Instr.takeDeferred bi.r) (fun _ x y => x = [] ∧ y = []) := by
  unfold Instr.takeDeferred
  refine Sim.bind (sim_getObj hl) fun β1 o o' hle ho => ?_
  obtain ⟨ho, _⟩ := ho
  cases ho with
  | deferred => exact Sim.bind (sim_setObj (hle _ _ hl) .taken rfl (fun _ _ _ h => by cases h)) fun β2 _ _ hle2 _ => Sim.pure fun _ _ => ⟨rfl, rfl⟩
  | _ => exact Sim.stuck
theorem rsim_asAddr {v v' : Value} {I : Beta → World → World → Prop} (h : VR β v v') : RSim I P β (asAddr v) (asAddr v') PR := by
  cases h with
  | ptr e => exact RSim.pure fun β1 hle => ⟨_, _, _, hle _ _ e, rfl, rfl⟩
  | nilPtr => exact RSim.never (s := runtimePanic .nilDeref) (never_runtimePanic _)
  | _ => exact RSim.stuck
theorem rsim_mapM {α : Type} {I : Beta → World → World → Prop} {f f' : α → Sem Value} : ∀ (l : List α) {β : Beta}, (∀ a, ∀ β1, β.le β1 → RSim I P β1 (f a) (f' a) VR) → RSim I P β (l.mapM f) (l.mapM f') LR
  | [], β, _ => RSim.pure fun _ _ => trivial
  | a :: l, β, hf => by
    rw [List.mapM_cons, List.mapM_cons]
    refine RSim.bind (hf a β (.refl _)) fun β1 v v' hle hv => ?_
    refine RSim.bind (rsim_mapM l fun b β2 hle2 => hf b β2 (hle.trans hle2)) fun β2 vs vs' hle2 hvs => RSim.pure fun β3 hle3 => ⟨hv.mono (hle2.trans hle3), LR.mono hle3 hvs⟩
theorem rsim_results (fn : Func) {tmps tmps' : Array Value} (ht : AR β tmps tmps') : RSim (R P B w0) P β (results fn tmps) (results fn tmps') VR := by
  unfold results
  have hget : ∀ (β1 : Beta), β.le β1 → ∀ t, VR β1 (tmps.getD t undef) (tmps'.getD t undef) := fun β1 hle t => by
    have := (Slots.getD (l := [t]) (a := ⟨tmps, []⟩) (a' := ⟨tmps', []⟩) (t := t) ⟨ht.1, fun s _ v v' e e' => (ht.mono hle).2 s v v' e e'⟩ (by simp))
    exact this
  refine RSim.bind (A := AR) ?_ fun β1 vs vs' hle hvs => RSim.pure fun β2 hle2 => ?_
  · rw [Array.mapM_eq_mapM_toList, Array.mapM_eq_mapM_toList]
    refine RSim.bind (rsim_mapM _ fun r β1 hle => ?_) fun β1 l l' hle hl => RSim.pure fun β2 hle2 => (LR.mono hle2 hl).ar
    cases r with
    | tmp t => exact RSim.pure fun β2 hle2 => hget β2 (hle.trans hle2) t
    | cell a t => exact RSim.bind (rsim_asAddr (hget β1 hle a)) fun β2 x x' hle2 hx => rsim_loadVar t hx
  · have hsz := hvs.1
    by_cases h1 : vs.size = 1
    · have h2 : vs'.size = 1 := hsz ▸ h1
      rw [dif_pos h1, dif_pos h2]
      exact (hvs.mono hle2).2 0 _ _ (by simp [h1]) (by simp [h2])
    · have h2 : vs'.size ≠ 1 := fun e => h1 (hsz.trans e)
      rw [dif_neg h1, dif_neg h2]
      have := hvs.mono hle2
      exact .tuple this.1 this.2
theorem fin_in {β0 : Beta} {n : Nat} {fn : Func} {Q : Value × World → Prop} : ∀ {ds ds' : List Deferred} {β : Beta} {tmps tmps' : Array Value} {σ w : World}, R P B w0 β σ w → β0.le β → AR β tmps tmps' → DR β ds ds' → (ifin P fn tmps ds σ).all Q →
    LeavesInM Fence.wide n P fn tmps' (Rets P B w0 β0 Q) ds' .returning w
  | [], [], β, tmps, tmps', σ, w, hR, hle, ht, _, hQ => by
    unfold ifin at hQ
    cases hs : (results fn tmps).run P σ with
    | halt x y => rw [hs] at hQ; exact hQ.elim
    | ok v σ1 =>
      rw [hs] at hQ
      obtain ⟨rfl, v', h1, h2⟩ := rsim_results fn ht β σ w (.refl _) hR v σ1 hs
      exact ⟨v', h1, β, v, σ1, hle, hR, h2, hQ⟩
  | d :: ds, d' :: ds', β, tmps, tmps', σ, w, hR, hle, ht, ⟨⟨l, bi, h1, h2, h3⟩, hr⟩, hQ => by
    unfold ifin at hQ
    rw [h1] at hQ
    simp only at hQ
    cases hs : (Instr.takeDeferred l).run P σ with
    | halt x y => rw [hs] at hQ; exact hQ.elim
    | ok v σ1 =>
      obtain ⟨β2, v', w', g1, g2, g3, rfl, rfl⟩ := sim_takeDeferred (P := P) (B := B) (w0 := w0) h3 β σ w (.refl _) hR v σ1 hs
      rw [hs] at hQ
      exact ⟨(fun e => by cases e), .inl ⟨bi.r, w', h2, g2, fin_in g3 (hle.trans g1) (ht.mono g1) (hr.mono g1) hQ⟩⟩
  | [], _ :: _, _, _, _, _, _, _, _, _, h, _ => h.elim
  | _ :: _, [], _, _, _, _, _, _, _, _, h, _ => h.elim
theorem eval_bool {a a' : Act} {c : Operand} {b : Bool} (h : ActR β a a') (hc : a.eval c = .bool b) : a'.eval c = .bool b := by
  cases c with
  | tmp t =>
    have hv : VR β (a.eval (.tmp t)) (a'.eval (.tmp t)) := (h.slots [t]).getD (by simp)
    rw [hc] at hv
    generalize a'.eval (.tmp t) = y at hv ⊢
    cases hv; rfl
  | const v => exact hc
  | global g => cases hc
  | func f => cases hc
section
variable {b : Frame} {a : Act} {k : List Go.Item} {cs : List Frame} {w : World}
theorem stepR_scope {c : Code} : step P (lone (b.atR a (.code (.scope c) :: k)) cs w) = .next (lone (b.atR a (.code c :: .inScope c :: k)) cs w) :=
  step_lone_go (by simp [stepG, stepG.exec, Frame.atR])
theorem stepR_inScope {c : Code} : step P (lone (b.atR a (.inScope c :: k)) cs w) = .next (lone (b.atR a k) cs w) :=
  step_lone_go (by simp [stepG, stepG.exec, Frame.atR])
theorem wpIn_scope {F : Fence} {n : Nat} {Q : Exit → Act → World → Prop} {c : Code} (h : c.wpIn F n P (fun e a w => Q e a w ∧ ∀ l, e ≠ .goto l) a w) : (Code.scope c).wpIn F n P Q a w := by
  intro b k cs hro hb hr
  have h0 : (lone (b.atR a (.code (.scope c) :: k)) cs w).fenced P F := fenced_calm hb hr rfl
  obtain ⟨e, a₁, w₁, ⟨hq, hg⟩, harr⟩ := h b (.inScope c :: k) cs hro hb hr
  have hx : ∀ id, exitTo id (.inScope c :: k) = exitTo id k := fun id => by simp [exitTo]
  cases e with
  | normal => exact ⟨.normal, a₁, w₁, hq, .head h0 stepR_scope (StepsIn.trans harr (.one (fenced_calm hb hr rfl) stepR_inScope))⟩
  | exit id =>
    exact ⟨.exit id, a₁, w₁, hq, fun k' hk => .head h0 stepR_scope (harr.1 k' (by rw [hx]; exact hk)),
      fun hr' hk => let ⟨k₁, h1, h2⟩ := harr.2 hr' (by rw [hx]; exact hk); ⟨k₁, h1, .head h0 stepR_scope h2⟩⟩
  | goto l => exact absurd rfl (hg l)
  | ret => exact ⟨_, a₁, w₁, hq, .of_steps (.one h0 stepR_scope) harr⟩
  | panic ch => exact ⟨_, a₁, w₁, hq, .of_steps (.one h0 stepR_scope) harr⟩
  | outgrown => exact ⟨_, a₁, w₁, hq, .of_steps (.one h0 stepR_scope) harr⟩
end
def NG (t : T (Exit × Act × World)) : Prop := ∀ Q : Exit × Act × World → Prop, t.all Q → t.all fun r => Q r ∧ ∀ l, r.1 ≠ .goto l
theorem NG.bind {α : Type} {t : T α} {f : α → T (Exit × Act × World)} (h : ∀ a, NG (f a)) : NG (t.bind f) := fun Q hQ => T.all_bind.2 (T.all_mono (fun a ha => h a Q ha) (T.all_bind.1 hQ))
theorem NG.pass {t : T (Exit × Act × World)} {f : Exit × Act × World → T (Exit × Act × World)} (ht : NG t) (h : ∀ r, (∀ l, r.1 ≠ .goto l) → NG (f r)) : NG (t.bind f) :=
  fun Q hQ => T.all_bind.2 (T.all_mono (fun r hr => h r hr.2 Q hr.1) (ht _ (T.all_bind.1 hQ)))
theorem NG.bad : NG .bad := fun _ h => h.elim
theorem NG.ret {e : Exit} {a : Act} {w : World} (h : ∀ l, e ≠ .goto l) : NG (.ret (e, a, w)) := fun _ hQ => ⟨hQ, h⟩
theorem ng_loop {body : Act → World → T (Exit × Act × World)} (hb : ∀ a w, NG (body a w)) : ∀ n a w, NG (iloop body n a w)
  | 0, _, _ => NG.bad
  | n + 1, a, w => (hb a w).pass fun r hr => by
    obtain ⟨e, a', w'⟩ := r
    cases e with
    | normal => exact ng_loop hb n a' w'
    | _ => exact NG.ret hr
theorem ng_code {K : Kont} {fuel : Nat} {fn : FuncId} : ∀ {ro : Option Nat} (c : Code) (a : Act) (w : World), NG (icode P K fuel fn ro c a w) := by
  intro ro c
  induction c with
  | skip => exact fun a w => NG.ret (fun l e => by cases e)
  | region id ops draw => exact fun a w => NG.bind fun _ => NG.ret (fun l e => by cases e)
  | seq x y ihx ihy =>
    intro a w
    refine (ihx a w).pass fun r hr => ?_
    obtain ⟨e, a', w'⟩ := r
    cases e with
    | normal => exact ihy a' w'
    | _ => exact NG.ret hr
  | cond c x y ihx ihy =>
    intro a w
    unfold icode
    split
    · exact ihx a w
    · exact ihy a w
    · exact NG.bad
  | block id c ih =>
    intro a w
    refine (ih a w).pass fun r hr => ?_
    obtain ⟨e, a', w'⟩ := r
    refine NG.ret fun l => ?_
    cases e with
    | exit id' =>
      simp only
      split
      · exact fun h => by cases h
      · exact fun h => by cases h
    | _ => exact hr l
  | loop c ih => exact fun a w => ng_loop ih fuel a w
  | rangeFunc g ps assign body _ _ =>
    intro a w
    unfold icode
    split
    · split
      · split
        · refine NG.bind fun r => ?_
          obtain ⟨v, w3⟩ := r
          dsimp only
          split
          · split <;> first | exact NG.bad | exact NG.ret (fun l e => by cases e)
          · exact NG.bad
        · exact NG.bad
      · exact NG.bad
    · exact NG.bad
  | exit id => exact fun a w => NG.ret (fun l e => by cases e)
  | ret => exact fun a w => NG.ret (fun l e => by cases e)
  | scope c ih => exact fun a w => ih a w
  | label l => exact fun a w => NG.ret (fun l e => by cases e)
  | _ => exact fun a w => NG.bad
theorem code_in (hm : P.follows .mixedOrders = true) {K : Kont} (hK : ∀ w0, KS P B w0 K) (fuel : Nat) (fn : FuncId) (n : Nat) : ∀ (c : Code) {ro ro' : Option Nat} {β : Beta} {aI aR : Act} {σ w : World} {Q : Exit × Act × World → Prop} {Qx : Exit → Act → World → Prop},
    R P B w0 β σ w → ActR β aI aR → RoR β ro ro' → (icode P K fuel fn ro c aI σ).all Q →
    (∀ β2 e a a' σ' w', β.le β2 → R P B w0 β2 σ' w' → ActR β2 a a' → Q (e, a, σ') → Qx e a' w') → c.wpIn (FF ro') n P Qx aR w := by
  intro c
  induction c with
  | skip => intro ro ro' β aI aR σ w Q Qx hR hA hro hQ hq; exact wpIn_skip (hq _ _ _ _ _ _ (.refl _) hR hA hQ)
  | region id ops draw =>
    intro ro ro' β aI aR σ w Q Qx hR hA hro hQ hq
    exact region_in hm hK hR hA (T.all_bind.1 hQ) fun β2 a a' σ' w' hle hR' hA' hQ' => hq β2 _ a a' σ' w' hle hR' hA' hQ'
  | seq x y ihx ihy =>
    intro ro ro' β aI aR σ w Q Qx hR hA hro hQ hq
    refine wpIn_seq (ihx hR hA hro (T.all_bind.1 hQ) fun β2 e a a' σ' w' hle hR' hA' hQ' => ?_)
    cases e with
    | normal => exact ihy hR' hA' (hro.mono hle) hQ' fun β3 e a a' σ' w' h3 => hq β3 e a a' σ' w' (hle.trans h3)
    | _ => exact hq β2 _ a a' σ' w' hle hR' hA' hQ'
  | cond c x y ihx ihy =>
    intro ro ro' β aI aR σ w Q Qx hR hA hro hQ hq
    unfold icode at hQ
    split at hQ
    · rename_i hc; exact wpIn_cond_true (eval_bool hA hc) (ihx hR hA hro hQ hq)
    · rename_i hc; exact wpIn_cond_false (eval_bool hA hc) (ihy hR hA hro hQ hq)
    · exact hQ.elim
  | block id c ih =>
    intro ro ro' β aI aR σ w Q Qx hR hA hro hQ hq
    refine wpIn_block (ih hR hA hro (T.all_bind.1 hQ) fun β2 e a a' σ' w' hle hR' hA' hQ' => ?_)
    cases e with
    | exit id' =>
      simp only [T.all] at hQ'
      simp only [Exit.inBlock]
      split
      · rename_i h; simp only [h, if_true] at hQ'; exact hq β2 _ a a' σ' w' hle hR' hA' hQ'
      · rename_i h; simp only [h, if_false] at hQ'; exact hq β2 _ a a' σ' w' hle hR' hA' hQ'
    | _ => exact hq β2 _ a a' σ' w' hle hR' hA' hQ'
  | loop c ih =>
    intro ro ro' β aI aR σ w Q Qx hR hA hro hQ hq
    refine wpIn_loop_ghost (fun m a' w' => ∃ β2 a σ', β.le β2 ∧ R P B w0 β2 σ' w' ∧ ActR β2 a a' ∧ (iloop (icode P K fuel fn ro c) m a σ').all Q) fuel ⟨β, aI, σ, .refl _, hR, hA, hQ⟩ ?_
    rintro m a' w' ⟨β2, a, σ', hle, hR', hA', hQ'⟩
    cases m with
    | zero => exact hQ'.elim
    | succ m =>
      refine ih hR' hA' (hro.mono hle) (T.all_bind.1 hQ') fun β3 e a a' σ' w' h3 hR2 hA2 hQ2 => ?_
      cases e with
      | normal => exact ⟨m, Nat.lt_succ_self m, β3, a, σ', hle.trans h3, hR2, hA2, hQ2⟩
      | _ => exact hq β3 _ a a' σ' w' (hle.trans h3) hR2 hA2 hQ2
  | rangeFunc g ps assign body _ _ =>
    intro ro ro' β aI aR σ w Q Qx hR hA hro hQ hq
    unfold icode at hQ
    refine wpIn_rangeFunc fun fn' _ => ?_
    cases hen : (Instr.enterLoop fn aI.tmps ps assign body ro).run P σ with
    | halt x y => rw [hen] at hQ; exact hQ.elim
    | ok lm σ1 =>
      obtain ⟨l, mark⟩ := lm
      rw [hen] at hQ
      simp only at hQ
      obtain ⟨β1, ⟨l', mark'⟩, w1, hle1, hrun1, hR1, ⟨bi, hl, rfl⟩, hmark⟩ := sim_enterLoop (P := P) (B := B) (w0 := w0) fn fn' ps assign body hA.tmps hro β σ w (.refl _) hR _ σ1 hen
      simp only at hl hmark
      split at hQ
      · rename_i f first captured hcf hg
        split at hQ
        · rename_i hbody
          have hv : VR β1 (aI.eval g) (aR.eval g) := eval_vr hcf fun t e => ((hA.mono hle1).slots [t]).getD (by simp)
          rw [hg] at hv
          have hfirst : first.isEmpty = true := by simp only [Bool.and_eq_true] at hbody; exact hbody.1
          obtain ⟨cap', hcap, heq⟩ : ∃ cap', AR β1 captured cap' ∧ aR.eval g = .func (.func f) #[] cap' := by
            generalize aR.eval g = y at hv ⊢
            cases hv with
            | @func _ _ _ fi' _ _ hf h1 h2 hs hc =>
              have hfi : fi' = #[] := by
                have : first = #[] := by simpa using hfirst
                rw [this] at h1
                exact Array.eq_empty_of_size_eq_zero h1.symm
              subst hfi
              cases hf with
              | func => exact ⟨_, ⟨hs, hc⟩, rfl⟩
          simp only [Bool.and_eq_true, Option.any_eq_true, bne_iff_ne, ne_eq] at hbody
          obtain ⟨_, fnc, hfn, hb1, hb2⟩ := hbody
          have hb3 : fnc.body.isNone = false := by cases hfb : fnc.body <;> simp_all
          have hb4 : (fnc.name == "runtime.NumGoroutine") = false := by simpa using hb2
          have hargs : AR β1 (#[.func (.yield l) #[] #[]] ++ captured) (#[] ++ #[.func (.yield bi.r) #[] #[]] ++ cap') := by
            refine AR.append ?_ hcap
            refine ⟨rfl, fun i v v' e e' => ?_⟩
            cases i with
            | zero =>
              simp at e e'
              subst e; subst e'
              exact .func0 (.yield hl) rfl (fun i v v' e => by simp at e)
            | succ i => simp at e
          refine ⟨bi.r, mark', w1, { target := .fn (.func f) cap', args := #[] ++ #[.func (.yield bi.r) #[] #[]] }, w1, f, #[] ++ #[.func (.yield bi.r) #[] #[]] ++ cap', w1, hrun1, ?_, (fun _ _ => trivial), ?_, (fun h => by cases h), ?_⟩
          · simp only [resolve, heq, Deferred.ofValue, Sem.run_pure]
            simp [Act.eval]
          · simp only [invoke, callFunc, Sem.run_bind, program, Sem.run, Result.andThen, hfn, hb3, hb4, Bool.false_eq_true, if_false]
            rfl
          · refine CallsIn.mono ((hK w0).enter hR1 hargs (T.all_bind.1 hQ) (n - 1)) fun e w3 he => ?_
            cases e with
            | returned v' =>
              obtain ⟨β3, v, σ3, h1, h2, _, h4⟩ := he
              have hl3 := h1 _ _ hl
              simp only at h4
              cases hel : (Instr.endLoop l).run P σ3 with
              | halt x y => rw [hel] at h4; exact h4.elim
              | ok jump σ4 =>
                rw [hel] at h4
                simp only at h4
                obtain ⟨β4, jump', w4, g1, g2, g3, rfl⟩ := sim_endLoop (P := P) (B := B) (w0 := w0) hl3 β3 σ3 w3 (.refl _) h2 jump σ4 hel
                have hle4 := hle1.trans (h1.trans g1)
                have hA4 : ActR β4 { aI with defers := mark ++ aI.defers } { aR with defers := mark' ++ aR.defers } := ⟨hA.tmps.mono hle4, (hmark.mono (h1.trans g1)).append (hA.defers.mono hle4)⟩
                refine ⟨jump, w4, g2, ?_⟩
                cases jump with
                | none => exact hq β4 _ _ _ _ _ hle4 g3 hA4 h4
                | some c =>
                  cases c with
                  | ret => exact wpIn_ret (hq β4 _ _ _ _ _ hle4 g3 hA4 h4)
                  | exit id => exact wpIn_exit (hq β4 _ _ _ _ _ hle4 g3 hA4 h4)
                  | _ => exact h4.elim
            | panicked c => exact he.elim
            | outgrown => exact he.elim
        · exact hQ.elim
      · exact hQ.elim
  | scope c ih =>
    intro ro ro' β aI aR σ w Q Qx hR hA hro hQ hq
    refine wpIn_scope (ih hR hA hro (ng_code (ro := ro) c aI σ _ hQ) fun β2 e a a' σ' w' hle hR' hA' hQ' => ?_)
    exact ⟨hq β2 _ a a' σ' w' hle hR' hA' hQ'.1, hQ'.2⟩
  | label l => intro ro ro' β aI aR σ w Q Qx hR hA hro hQ hq; exact wpIn_label (hq _ _ _ _ _ _ (.refl _) hR hA hQ)
  | exit id => intro ro ro' β aI aR σ w Q Qx hR hA hro hQ hq; exact wpIn_exit (hq _ _ _ _ _ _ (.refl _) hR hA hQ)
  | ret => intro ro ro' β aI aR σ w Q Qx hR hA hro hQ hq; exact wpIn_ret (hq _ _ _ _ _ _ (.refl _) hR hA hQ)
  | _ => intro ro ro' β aI aR σ w Q Qx hR hA hro hQ hq; exact hQ.elim
theorem call_in (hm : P.follows .mixedOrders = true) {K : Kont} (hK : ∀ w0, KS P B w0 K) {fuel : Nat} {f : FuncId} {args args' : Array Value} {σ w : World} {Q : Value × World → Prop} (hR : R P B w0 β σ w) (ha : AR β args args')
    (hQ : (icall P K fuel f args σ).all Q) (n : Nat) : CallsIn Fence.wide n P f args' w (Rets P B w0 β Q) := by
  unfold icall at hQ
  cases hf : P.funcs[f]? with
  | none => rw [hf] at hQ; exact hQ.elim
  | some fn =>
    rw [hf] at hQ
    simp only at hQ
    cases hb : fn.body with
    | none => rw [hb] at hQ; exact hQ.elim
    | some c =>
      rw [hb] at hQ
      simp only at hQ
      refine callsIn_of_wp_marks hf hb trivial ?_ rfl
      have hA : ActR β { tmps := args ++ Array.replicate (fn.ntmps - args.size) undef, defers := [] } { tmps := args' ++ Array.replicate (fn.ntmps - args'.size) undef, defers := [] } :=
        ⟨by rw [ha.1]; exact ha.append (AR.undef β _), trivial⟩
      refine code_in hm hK fuel f n c (ro := none) (ro' := none) hR hA trivial (T.all_bind.1 hQ) fun β2 e a a' σ' w' hle hR' hA' hQ' => ?_
      cases e with
      | normal => exact fin_in hR' hle hA'.tmps hA'.defers hQ'
      | ret => exact fin_in hR' hle hA'.tmps hA'.defers hQ'
      | _ => exact hQ'.elim
theorem round_in (hm : P.follows .mixedOrders = true) {K : Kont} (hK : ∀ w0, KS P B w0 K) {fuel : Nat} {l : Nat} {bi : BI} {f f' : FuncId} {tmps tmps' : Array Value} {assign body : Code} {σ w : World} {Q : Value × World → Prop} (hR : R P B w0 β σ w) (hl : β l = some bi)
    (ht : AR β tmps tmps') (hQ : (iround P K fuel l f tmps assign body σ).all Q) (n : Nat) : RoundIn Fence.wide n P bi.r f' tmps' assign body w (Rets P B w0 β Q) := by
  unfold iround at hQ
  have fin : ∀ (jump : Option Code) {β2 : Beta} {σ' w' : World}, β.le β2 → R P B w0 β2 σ' w' → (ofRun ((Instr.endRound l jump).run P σ')).all Q → ∃ v w2, (Instr.endRound bi.r jump).run P w' = .ok v w2 ∧ Rets P B w0 β Q (.returned v) w2 := by
    intro jump β2 σ' w' hle hR' hq
    cases hs : (Instr.endRound l jump).run P σ' with
    | halt x y => rw [hs] at hq; exact hq.elim
    | ok v σ2 =>
      rw [hs] at hq
      obtain ⟨β3, v', w2, g1, g2, g3, g4⟩ := sim_endRound (P := P) (B := B) (w0 := w0) (hle _ _ hl) jump β2 σ' w' (.refl _) hR' v σ2 hs
      exact ⟨v', w2, g2, β3, v, σ2, hle.trans g1, g3, g4, hq⟩
  refine roundIn_of_wpIn trivial ?_
  have hro : RoR β (some l) (some bi.r) := ⟨bi, hl, rfl⟩
  refine code_in hm hK fuel f n assign (ro := some l) (ro' := some bi.r) (aI := { tmps, defers := [] }) hR ⟨ht, trivial⟩ hro (T.all_bind.1 hQ) fun β2 e a a' σ' w' hle hR' hA' hQ' => ?_
  cases e with
  | normal =>
    simp only at hQ'
    cases hs : (Instr.beginRound l).run P σ' with
    | halt x y => rw [hs] at hQ'; exact hQ'.elim
    | ok u σ2 =>
      rw [hs] at hQ'
      simp only at hQ'
      obtain ⟨β3, u', w2, g1, g2, g3, _⟩ := sim_beginRound (P := P) (B := B) (w0 := w0) (hle _ _ hl) β2 σ' w' (.refl _) hR' u σ2 hs
      refine ⟨w2, g2, code_in hm hK fuel f n body (ro := some l) (ro' := some bi.r) g3 (hA'.mono g1) (hro.mono (hle.trans g1)) (T.all_bind.1 hQ') fun β4 e a2 a2' σ4 w4 h4 hR4 hA4 hQ4 => ?_⟩
      have hle4 := hle.trans (g1.trans h4)
      cases e with
      | normal => exact fin none hle4 hR4 hQ4
      | ret => exact fin _ hle4 hR4 hQ4
      | exit id => exact fin _ hle4 hR4 hQ4
      | _ => exact hQ4.elim
  | _ => exact hQ'.elim
end
end Go.Ideal
namespace Go.Ideal
open Go Go.RowKit Go.ChangeShapes
theorem trodAll_below {H : Type} {enc : TypeId × Value → H} {P : Program} (hl : laidOutB P = true) {W W' : World} (hb : Below W.heap.size W W') {sp : Nat → Bool} :
    ∀ {ts : List TypeId} {vs : List Value} {ds : List (DataW H)} {ps : List MemPlace}, (∀ t ∈ ts, P.readableRec t = true ∧ t < P.types.size) → DataW.TrodAll enc P W 0 (fun _ => true) true ts vs ds ps →
      (∀ p ∈ ps, p.block < W.heap.size) → (∀ p ∈ ps, sp p.block = true) → DataW.TrodAll enc P W' 0 sp true ts vs ds ps
  | [], [], [], _, _, h, _, _ => h
  | t :: ts, v :: vs, d :: ds, ps, hr, ⟨p, q, h1, h2, e⟩, hlt, hs => by
    subst e
    exact ⟨p, q, WideElems.Trod_stays hl (hr t (by simp)).1 (hr t (by simp)).2 h1 (fun x hx => hb.same (hlt x (by simp [hx]))) (fun x hx => hs x (by simp [hx])),
      trodAll_below hl hb (fun u hu => hr u (by simp [hu])) h2 (fun x hx => hlt x (by simp [hx])) (fun x hx => hs x (by simp [hx])), rfl⟩
  | [], [], _ :: _, _, _, h, _, _ => h.elim
  | [], _ :: _, _, _, _, h, _, _ => by cases h
  | _ :: _, [], _, _, _, h, _, _ => by cases h
  | _ :: _, _ :: _, [], _, _, h, _, _ => h.elim
theorem post_true {H : Type} {enc : TypeId × Value → H} {P : Program} {f : Func} {s : ChangeSpec} {apart handsOn again : Bool} {W W' : World} {args : Array Value} {ds gs : List (DataW H)} {before : List MemPlace} {tb : TypeId}
    (hl : laidOutB P = true) (hpar : ∀ t ∈ f.params.toList, P.readableRec t = true ∧ t < P.types.size) (hres : f.resultTypes = #[tb]) (htb : P.underlying tb = some .bool) (hvars : s.vars = [])
    (hs : s.fn H ds = { results := [.lit (.bool true)], args := ds, vars := [] })
    (hW : DataW.Whole enc P f.params.toList s.vars apart W args.toList ds gs before) (hb : Below W.heap.size W W') : s.post enc P f apart true handsOn again W args (.bool true) W' := by
  have hlt := hW.lt
  obtain ⟨p, q, h1, h2, rfl, hz, hn⟩ := hW
  have hq : q = [] ∧ gs = [] := by
    rw [hvars] at h2
    cases gs with
    | nil => exact ⟨h2, rfl⟩
    | cons g gs => exact h2.elim
  obtain ⟨rfl, rfl⟩ := hq
  simp only [List.append_nil] at hz hn hlt
  have hs' : s.fn H (ds ++ []) = { results := [.lit (.bool true)], args := ds, vars := [] } := by rw [List.append_nil]; exact hs
  have hres' : ∀ (b : Nat) (sp : Nat → Bool) (hd : Bool), DataW.TrodAll enc P W' b sp hd f.resultTypes.toList ((Value.bool true).resultList f.resultTypes.size) (s.fn H (ds ++ [])).results [] := by
    intro b sp hd
    rw [hs', hres]
    exact trodAll_mk1 (shut_bool htb true)
  refine ⟨ds, [], p ++ [], [], p, [], ⟨p, [], h1, h2, rfl, by simpa using hz, by simpa using hn⟩, hres' _ _ _, ?_, ?_, hb.frame _, fun _ => ⟨?_, (s.fn H (ds ++ [])).results ++ ds, [], ([] ++ p) ++ [], ⟨[] ++ p, [], ?_, ?_, rfl, ?_, ?_⟩, ?_⟩⟩
  · rw [hs']
    exact trodAll_below hl hb hpar h1 hlt (fun x hx => by simpa using hlt x hx)
  · rw [hs', hvars]
    exact rfl
  · exact ok_one hres rfl (by simp [Value.okWide, htb, Cell.okWide, Cell.ok])
  · exact trodAll_append (trodAll_below hl hb hpar h1 hlt (fun _ _ => rfl)) (hres' _ _ _)
  · rw [hvars]; exact rfl
  · intro b off hp
    have hp : MemPlace.cell b off ∈ p := by simpa using hp
    rw [hb.frozen (p := ⟨b, off, none⟩) (hlt _ hp)]
    exact hz b off hp
  · intro ha
    simpa using hn ha
  · intro x hx _
    simpa using hx
theorem R.start (P : Program) (W : World) (σ : World) (hσ : σ.heap = #[]) : R P W.heap.size (Base.of W) (fun _ => none) σ W where
  below := Below.refl _ _
  held := fun k hk => hk.elim
  free := fun _ _ _ _ _ _ h => h
  size := Nat.le_refl _
  dom := fun b bi h => by cases h
  cov := fun b h => by simp [hσ] at h
  obj := fun b o bi h => by simp [hσ] at h
  dd := fun b o h => by simp [hσ] at h
  esz := fun b c e fz bi h => by simp [hσ] at h
  new := fun b o bi h => by simp [hσ] at h
  inj := fun b1 b2 o1 o2 bi1 bi2 h => by simp [hσ] at h
def plainCell (P : Program) (t : TypeId) : Bool := match P.underlying t with
  | some .bool | some (.int _) | some .string => true
  | _ => false
theorem plainCell_self {P : Program} {w : World} {r : Reach} {base : Nat} {t : TypeId} {v : Value} (hp : plainCell P t = true) (h : Cell.okWide P w r base t v) :
    (P.underlying t = some .bool ∧ ∃ b, v = .bool b) ∨ (∃ k, P.underlying t = some (.int k) ∧ ∃ n, v = .int k n ∧ k.has n) ∨ (P.underlying t = some .string ∧ ∃ s, v = .string s) := by
  unfold plainCell at hp
  unfold Cell.okWide Cell.ok at h
  cases ht : P.underlying t with
  | none => rw [ht] at hp; cases hp
  | some d =>
    rw [ht] at hp h
    cases d with
    | bool => cases v <;> simp at h; exact .inl ⟨rfl, _, rfl⟩
    | int k => cases v <;> simp at h; exact .inr (.inl ⟨k, rfl, _, by rw [h.1], h.2⟩)
    | string => cases v <;> simp at h; exact .inr (.inr ⟨rfl, _, rfl⟩)
    | _ => cases hp
theorem int_cell {P : Program} {w : World} {r : Reach} {base : Nat} {t u : TypeId} {v : Value} (ht : P.underlying t = some (.int .i64)) (he : some t = some u) (h : Cell.okWide P w r base u v) : ∃ a, v = .int .i64 a := by
  simp only [Option.some.injEq] at he
  subst he
  rcases plainCell_self (by unfold plainCell; rw [ht]) h with ⟨h1, _⟩ | ⟨k, h1, n, h2, _⟩ | ⟨h1, _⟩
  · rw [ht] at h1; cases h1
  · rw [ht] at h1
    simp only [Option.some.injEq, TypeDesc.int.injEq] at h1
    subst h1
    exact ⟨n, h2⟩
  · rw [ht] at h1; cases h1
theorem args_one {H : Type} {enc : TypeId × Value → H} {P : Program} {w : World} {base : Nat} {sp : Nat → Bool} {hd : Bool} {t : TypeId} {args : Array Value} {ds : List (DataW H)} {ps : List MemPlace}
    (h : DataW.TrodAll enc P w base sp hd [t] args.toList ds ps) : ∃ v d, args = #[v] ∧ ds = [d] := by
  obtain ⟨l⟩ := args
  match l, ds, h with
  | [], _, h => exact h.elim
  | [v], [], h => exact h.elim
  | [v], [d], h => exact ⟨v, d, rfl, rfl⟩
  | [v], _ :: _ :: _, ⟨_, _, _, h, _⟩ => exact h.elim
  | v :: w :: l, [], h => exact h.elim
  | v :: w :: l, [d], ⟨_, _, _, h, _⟩ => exact h.elim
  | v :: w :: l, _ :: _ :: _, ⟨_, _, _, h, _⟩ => exact h.elim
end Go.Ideal
namespace Go.Ideal
open Go Go.RowKit
theorem R.grow {P : Program} {B : Nat} {w0 : Base} {β : Beta} {σ w w' : World} (h : R P B w0 β σ w) (hb : Below w.heap.size w w') : R P B w0 β σ w' where
  below := h.below.trans (hb.mono h.size)
  held := fun k hk => by
    obtain ⟨x, hx, h2⟩ := h.held k hk
    exact ⟨x, by rw [hb.block k (Array.getElem?_eq_some_iff.1 hx).1]; exact hx, h2⟩
  free := h.free
  size := Nat.le_trans h.size hb.size
  dom := h.dom
  cov := h.cov
  obj := fun b o bi hk hbk hl => by
    obtain ⟨o', ho', hor⟩ := h.obj b o bi hk hbk hl
    exact ⟨o', by rw [hb.block _ (h.lt hk hbk hl)]; exact ho', hor⟩
  dd := h.dd
  esz := h.esz
  new := h.new
  inj := h.inj
structure Laid (P : Program) (sp : FuncId → Option Value) : Prop where
  plain : ∀ f v, sp f = some v → selfD 4 v = true
  calls : ∀ f v, sp f = some v → ∀ w, Calls P f #[] w fun e w' => e = .returned v ∧ Below w.heap.size w w'
end Go.Ideal
namespace Go.Ideal
open Go
abbrev PG := Option (Option Tmp × Bool)
structure PR0 where
  dst : Option Tmp
  op : Op
  ty : TypeId
  gd : PG
structure PO where
  dst : Option Tmp
  op : Op
  ty : TypeId
  gd : PG
  re : List PR0
inductive PC where
  | skip | ret | bad
  | exit (id : Nat)
  | ops (l : List PO)
  | seq (x y : PC)
  | cond (c : Operand) (x y : PC)
  | block (id : Nat) (c : PC)
  | loop (c : PC)
  | rangeFunc (g : Operand) (ps : Array Tmp) (assign body : Code)
def gdOf (ops : Array Oper) (o : Oper) : PG := o.guard.map fun (j, want) => ((ops[j]?).bind (·.dst), want)
def poOf (ops : Array Oper) (i : Nat) (re : List Nat) : PO :=
  let o := ops.getD i default
  { dst := o.dst, op := o.op, ty := o.type, gd := gdOf ops o, re := re.map fun r => let q := ops.getD r default; { dst := q.dst, op := q.op, ty := q.type, gd := gdOf ops q } }
def fits (ops : Array Oper) (p : Plan) : Bool := p.all fun (i, re) => decide (i < ops.size) && re.all fun r => decide (r < ops.size)
def pcOf : Code → PC
  | .skip => .skip
  | .ret => .ret
  | .exit id => .exit id
  | .region _ ops draw =>
    if draw then (if planOk ops (mkPlan ops) && fits ops (mkPlan ops) then .ops ((mkPlan ops).map fun (i, re) => poOf ops i re) else .bad)
    else .ops ((List.range ops.size).map fun i => poOf ops i [])
  | .seq x y => .seq (pcOf x) (pcOf y)
  | .cond c x y => .cond c (pcOf x) (pcOf y)
  | .block id c => .block id (pcOf c)
  | .loop c => .loop (pcOf c)
  | .rangeFunc g ps assign body => .rangeFunc g ps assign body
  | .scope c => pcOf c
  | .label _ => .skip
  | _ => .bad
def want (tmps : Array Value) : PG → Bool
  | none => true
  | some (t, w) => (match t.bind (tmps[·]?) with | some (.bool b) => some b | _ => none) == some w
def pstep (P : Program) (ρ : Operand → Value) (op : Op) (ty : TypeId) (w : World) : T (Next × World) :=
  istep P ρ { dst := none, op, type := ty, pos := "", after := #[], guard := none } w
def pval (K : Kont) (w : T (Next × World)) : T (Value × World) := w.bind fun (x, w) => match x with
    | .value v => .ret (v, w)
    | .skip => .ret (undef, w)
    | .enter f args => K.enter f args w
    | .round l f tmps assign body => K.round l f tmps assign body w
    | _ => .bad
def pone (P : Program) (K : Kont) (o : PO) (a : Act) (w : World) : T (Act × World) :=
  if want a.tmps o.gd then (pval K (pstep P a.eval o.op o.ty w)).bind fun (v, w) => .ret (a.put o.dst v, w) else .ret (a.put o.dst undef, w)
def pagain (P : Program) (a : Act) (w : World) (re : List PR0) : Bool :=
  re.all fun r => !want a.tmps r.gd ||
    match pstep P a.eval r.op r.ty w with
    | .ret (.value v, _) => match r.dst with
      | some d => match a.tmps[d]? with
        | some u => veq 4 v u
        | none => false
      | none => false
    | _ => false
def pops (P : Program) (K : Kont) : List PO → Act → World → T (Act × World)
  | [], a, w => .ret (a, w)
  | o :: rest, a, w => (pone P K o a w).bind fun (a, w) => if pagain P a w o.re then pops P K rest a w else .bad
def pcode (P : Program) (K : Kont) (fuel : Nat) (fn : FuncId) (ro : Option Nat) : PC → Act → World → T (Exit × Act × World)
  | .skip, a, w => .ret (.normal, a, w)
  | .ret, a, w => .ret (.ret, a, w)
  | .bad, _, _ => .bad
  | .exit id, a, w => .ret (.exit id, a, w)
  | .ops l, a, w => (pops P K l a w).bind fun (a, w) => .ret (.normal, a, w)
  | .seq x y, a, w => (pcode P K fuel fn ro x a w).bind fun
    | (.normal, a, w) => pcode P K fuel fn ro y a w
    | (e, a, w) => .ret (e, a, w)
  | .cond c x y, a, w =>
    match a.eval c with
    | .bool true => pcode P K fuel fn ro x a w
    | .bool false => pcode P K fuel fn ro y a w
    | _ => .bad
  | .block id c, a, w => (pcode P K fuel fn ro c a w).bind fun (e, a, w) => .ret (match e with | .exit id' => if id' = id then .normal else .exit id' | e => e, a, w)
  | .loop c, a, w => iloop (pcode P K fuel fn ro c) fuel a w
  | .rangeFunc g ps assign body, a, w => icode P K fuel fn ro (.rangeFunc g ps assign body) a w
section
variable {P : Program} {K : Kont}
theorem pstep_eq (ρ : Operand → Value) (o : Oper) (w : World) : pstep P ρ o.op o.type w = istep P ρ o w := by
  have he : execOp ρ { dst := none, op := o.op, type := o.type, pos := "", after := #[], guard := none } = execOp ρ o := rfl
  unfold pstep istep
  rw [he]
theorem want_eq (ops : Array Oper) (o : Oper) (tmps : Array Value) : want tmps (gdOf ops o) = Region.wanted o (yielded ops tmps) := by
  unfold want gdOf Region.wanted
  cases hg : o.guard with
  | none => rfl
  | some gw => rfl
theorem getD_of {ops : Array Oper} {i : Nat} {o : Oper} (h : ops[i]? = some o) : ops.getD i default = o := by
  rw [Array.getD_eq_getD_getElem?, h]; rfl
theorem pone_eq {ops : Array Oper} {i : Nat} (hi : i < ops.size) (re : List Nat) (a : Act) (w : World) : pone P K (poOf ops i re) a w = iopAt P K ops i a w := by
  have ho : ops[i]? = some ops[i] := by simp [hi]
  unfold pone iopAt
  rw [ho]
  simp only [poOf, getD_of ho, want_eq, pstep_eq]
  rfl
theorem pagain_eq {ops : Array Oper} {re : List Nat} (hr : ∀ r ∈ re, r < ops.size) (i : Nat) (a : Act) (w : World) : pagain P a w (poOf ops i re).re = recheck P ops a w re := by
  unfold pagain recheck poOf
  simp only [List.all_map]
  revert hr
  induction re with
  | nil => intro _; rfl
  | cons r re ih =>
    intro hr
    have hlt : r < ops.size := hr r (by simp)
    have ho : ops[r]? = some ops[r] := by simp [hlt]
    simp only [List.all_cons]
    rw [ih fun x hx => hr x (by simp [hx])]
    congr 1
    rw [ho]
    simp only [Function.comp, getD_of ho, want_eq, pstep_eq]
    rfl
theorem pops_plan {ops : Array Oper} : ∀ {p : Plan}, fits ops p = true → ∀ (a : Act) (w : World), pops P K (p.map fun (i, re) => poOf ops i re) a w = iplan P K ops p a w
  | [], _, _, _ => rfl
  | (i, re) :: p, h, a, w => by
    simp only [fits, List.all_cons, Bool.and_eq_true, decide_eq_true_eq] at h
    have hr : ∀ r ∈ re, r < ops.size := fun r hr => by simpa using List.all_eq_true.1 h.1.2 r hr
    simp only [List.map_cons, pops, iplan, pone_eq h.1.1, pagain_eq hr]
    congr 1
    funext x
    rw [pops_plan (p := p) h.2]
theorem pops_range {ops : Array Oper} : ∀ (l : List Nat), (∀ i ∈ l, i < ops.size) → ∀ (a : Act) (w : World), pops P K (l.map fun i => poOf ops i []) a w = iops P K ops l a w
  | [], _, _, _ => rfl
  | i :: l, h, a, w => by
    simp only [List.map_cons, pops, iops, pone_eq (h i (by simp))]
    congr 1
    funext x
    rw [pops_range l (fun j hj => h j (by simp [hj]))]
    simp [poOf, pagain]
theorem icode_pc {fuel : Nat} {fn : FuncId} : ∀ (c : Code) {ro : Option Nat} {a : Act} {w : World} {Q : Exit × Act × World → Prop}, (pcode P K fuel fn ro (pcOf c) a w).all Q → (icode P K fuel fn ro c a w).all Q := by
  intro c
  induction c with
  | skip => intro ro a w Q h; exact h
  | scope c ih => intro ro a w Q h; exact ih h
  | label l => intro ro a w Q h; exact h
  | ret => intro ro a w Q h; exact h
  | exit id => intro ro a w Q h; exact h
  | region id ops draw =>
    intro ro a w Q h
    unfold pcOf at h
    unfold icode iregion
    cases draw with
    | true =>
      simp only [if_true] at h ⊢
      split at h
      · rename_i hc
        simp only [Bool.and_eq_true] at hc
        rw [if_pos hc.1]
        simp only [pcode, pops_plan hc.2] at h
        exact h
      · exact h.elim
    | false =>
      simp only [Bool.false_eq_true, if_false] at h ⊢
      simp only [pcode] at h
      rw [pops_range _ (fun i hi => by simpa using hi)] at h
      exact h
  | seq x y ihx ihy =>
    intro ro a w Q h
    refine T.all_bind.2 (T.all_mono (fun p hp => ?_) (ihx (T.all_bind.1 h)))
    obtain ⟨e, a, w⟩ := p
    cases e with
    | normal => exact ihy hp
    | _ => exact hp
  | cond c x y ihx ihy =>
    intro ro a w Q h
    unfold icode
    unfold pcOf pcode at h
    split at h
    · rename_i hc; rw [hc]; exact ihx h
    · rename_i hc; rw [hc]; exact ihy h
    · exact h.elim
  | block id c ih =>
    intro ro a w Q h
    exact T.all_bind.2 (ih (T.all_bind.1 h))
  | loop c ih =>
    intro ro a w Q h
    have key : ∀ (n : Nat) (a : Act) (w : World), (iloop (pcode P K fuel fn ro (pcOf c)) n a w).all Q → (iloop (icode P K fuel fn ro c) n a w).all Q := by
      intro n
      induction n with
      | zero => intro a w h; exact h
      | succ n ihn =>
        intro a w h
        refine T.all_bind.2 (T.all_mono (fun p hp => ?_) (ih (T.all_bind.1 h)))
        obtain ⟨e, a, w⟩ := p
        cases e with
        | normal => exact ihn a w hp
        | _ => exact hp
    exact key fuel a w h
  | rangeFunc g ps assign body _ _ => intro ro a w Q h; exact h
  | _ => intro ro a w Q h; exact h.elim
end
end Go.Ideal
namespace Go.Ideal
open Go Go.RowKit
abbrev Answers := FuncId → Array Value → Option Value
def plainArgs (a : Array Value) : Bool := a.toList.all fun v => ground v && selfD 4 v
structure LaidA (P : Program) (sp : Answers) : Prop where
  plain : ∀ f a v, sp f a = some v → selfD 4 v = true
  args : ∀ f a v, sp f a = some v → plainArgs a = true
  calls : ∀ f a v, sp f a = some v → ∀ w, Calls P f a w fun e w' => e = .returned v ∧ Below w.heap.size w w'
def runA (P : Program) (sp : Answers) : Nat → Kont
  | 0 => { enter := fun _ _ _ => .bad, round := fun _ _ _ _ _ _ => .bad }
  | n + 1 => {
      enter := fun f args w => match sp f args with
        | some v => .ret (v, w)
        | none => icall P (runA P sp n) (n + 1) f args w
      round := iround P (runA P sp n) (n + 1) }
theorem AR.plain {β : Beta} {a a' : Array Value} (h : AR β a a') (hp : plainArgs a = true) : a = a' := by
  apply Array.ext h.1
  intro i h1 h2
  have hg : ground a[i] = true := by
    have := List.all_eq_true.1 hp a[i] (by simp)
    simp only [Bool.and_eq_true] at this
    exact this.1
  exact (h.2 i a[i] a'[i] (by simp) (by simp)).ground 4 hg
theorem AR.self (β : Beta) {a : Array Value} (hp : plainArgs a = true) : AR β a a := by
  refine ⟨rfl, fun i v v' h1 h2 => ?_⟩
  rw [h1] at h2
  cases h2
  have hm : v ∈ a.toList := by
    rw [Array.getElem?_eq_some_iff] at h1
    obtain ⟨hlt, rfl⟩ := h1
    simp
  have := List.all_eq_true.1 hp v hm
  simp only [Bool.and_eq_true] at this
  exact selfVR β 4 v this.2
theorem runA_KS {P : Program} {sp : Answers} (hm : P.follows .mixedOrders = true) (hs : LaidA P sp) (B : Nat) (w0 : Base) : ∀ n, KS P B w0 (runA P sp n)
  | 0 => ⟨fun _ _ hQ => hQ.elim, fun _ _ _ hQ => hQ.elim⟩
  | n + 1 => ⟨fun {β σ w f args args' Q} hR ha hQ k => by
      simp only [runA] at hQ
      cases hf : sp f args with
      | none => rw [hf] at hQ; exact call_in hm (fun w0 => runA_KS hm hs B w0 n) hR ha hQ k
      | some v =>
        rw [hf] at hQ
        simp only at hQ
        have he := ha.plain (hs.args f args v hf)
        subst he
        refine callsIn_wide.2 ((hs.calls f args v hf w).mono fun e w' h => ?_)
        obtain ⟨rfl, hb⟩ := h
        exact ⟨β, v, σ, .refl _, hR.grow hb, selfVR β 4 v (hs.plain f args v hf), hQ⟩, fun hR hl ht hQ => round_in hm (fun w0 => runA_KS hm hs B w0 n) hR hl ht hQ⟩
theorem calls_of_runA {P : Program} {sp : Answers} {B : Nat} {w0 : Base} {β : Beta} (hm : P.follows .mixedOrders = true) (hs : LaidA P sp) {m : Nat} {f : FuncId} {args args' : Array Value} {σ w : World} {Q : Value × World → Prop}
    (hR : R P B w0 β σ w) (ha : AR β args args') (hQ : ((runA P sp m).enter f args σ).all Q) : Calls P f args' w (Rets P B w0 β Q) := callsIn_wide.1 ((runA_KS hm hs B w0 m).enter hR ha hQ 0)
theorem LaidA.start (P : Program) : LaidA P fun _ _ => none := ⟨(fun _ _ _ h => by cases h), (fun _ _ _ h => by cases h), (fun _ _ _ h => by cases h)⟩
theorem LaidA.add {P : Program} (hm : P.follows .mixedOrders = true) {sp : Answers} (hs : LaidA P sp) (f : FuncId) (ans : Array Value → Option Value)
    (h : ∀ a v, ans a = some v → plainArgs a = true ∧ plainArgs #[v] = true ∧ ∃ m, ((runA P sp m).enter f a default).all fun r => r.1 = v) :
    LaidA P fun g a => if g = f then ans a else sp g a := by
  refine ⟨fun g a v hg => ?_, fun g a v hg => ?_, fun g a v hg w => ?_⟩
  · by_cases he : g = f
    · rw [if_pos he] at hg; simpa [plainArgs] using (by have := (h a v hg).2.1; simp only [plainArgs, List.all_cons, List.all_nil, Bool.and_eq_true] at this; exact this.1.2)
    · rw [if_neg he] at hg; exact hs.plain g a v hg
  · by_cases he : g = f
    · rw [if_pos he] at hg; exact (h a v hg).1
    · rw [if_neg he] at hg; exact hs.args g a v hg
  · by_cases he : g = f
    · rw [if_pos he] at hg
      subst he
      obtain ⟨ha, hv, m, hr⟩ := h a v hg
      refine (calls_of_runA hm hs (R.start P w default rfl) (AR.self _ ha) hr).mono fun e w' he => ?_
      cases e with
      | returned v' =>
        obtain ⟨β2, v2, σ', _, hR', hv2, hq⟩ := he
        simp only at hq
        subst hq
        simp only [plainArgs, List.all_cons, List.all_nil, Bool.and_eq_true] at hv
        have := hv2.ground 4 hv.1.1
        subst this
        exact ⟨rfl, hR'.below⟩
      | panicked c => exact he.elim
      | outgrown => exact he.elim
    · rw [if_neg he] at hg; exact hs.calls g a v hg w
def Answers.more (sp new : Answers) : Answers := fun f a => match new f a with
  | some v => some v
  | none => sp f a
theorem LaidA.more {P : Program} (hm : P.follows .mixedOrders = true) {sp : Answers} (hs : LaidA P sp) (new : Answers)
    (h : ∀ f a v, new f a = some v → plainArgs a = true ∧ plainArgs #[v] = true ∧ ∃ m, ((runA P sp m).enter f a default).all fun r => r.1 = v) : LaidA P (sp.more new) := by
  have key : ∀ f, LaidA P fun g b => if g = f then new f b else sp g b := fun f => hs.add hm f (new f) fun b u hb => h f b u hb
  refine ⟨fun f a v hf => ?_, fun f a v hf => ?_, fun f a v hf w => ?_⟩ <;> unfold Answers.more at hf <;> split at hf
  · rename_i u hu; simp only [Option.some.injEq] at hf; subst hf; exact (key f).plain f a u (by simpa using hu)
  · exact hs.plain f a v hf
  · rename_i u hu; simp only [Option.some.injEq] at hf; subst hf; exact (key f).args f a u (by simpa using hu)
  · exact hs.args f a v hf
  · rename_i u hu; simp only [Option.some.injEq] at hf; subst hf; exact (key f).calls f a u (by simpa using hu) w
  · exact hs.calls f a v hf w
end Go.Ideal
