/-
  Code, calls and rounds: the law that ties the ideal run to the machine.
-/
import Derived.Sort.LoopGhostIn
import Derived.Test.YtplcocifndpplaaIw
namespace Go.Ideal
open Go
section
variable {P : Program} {B : Nat} {w0 : Base} {β : Beta}

/-! ### Ranges over functions -/
def RoR (β : Beta) : Option Nat → Option Nat → Prop
  | none, none => True
  | some l, some r => ∃ bi, β l = some bi ∧ r = bi.r
  | _, _ => False

theorem RoR.mono {β β' : Beta} (h : β.le β') : ∀ {a b : Option Nat}, RoR β a b → RoR β' a b
  | none, none, _ => trivial
  | some _, some _, ⟨bi, h1, h2⟩ => ⟨bi, h _ _ h1, h2⟩
  | none, some _, h => h.elim
  | some _, none, h => h.elim

theorem DR.append {β : Beta} : ∀ {a b c d : List Deferred}, DR β a b → DR β c d → DR β (a ++ c) (b ++ d)
  | [], [], _, _, _, h => h
  | _ :: _, _ :: _, _, _, h, k => ⟨h.1, DR.append h.2 k⟩
  | [], _ :: _, _, _, h, _ => h.elim
  | _ :: _, [], _, _, h, _ => h.elim

theorem sim_enterLoop (fn fn' : FuncId) {tmps tmps' : Array Value} (ps : Array Tmp) (assign body : Code) {ro ro' : Option Nat} (ht : AR β tmps tmps') (hro : RoR β ro ro') :
    Sim P B w0 β (Instr.enterLoop fn tmps ps assign body ro) (Instr.enterLoop fn' tmps' ps assign body ro') (fun β x x' => (∃ bi, β x.1 = some bi ∧ x'.1 = bi.r) ∧ DR β x.2 x'.2) := by
  unfold Instr.enterLoop
  have tail : ∀ {β1 : Beta} {d : Nat} {bd : BI} {m m' : List Deferred}, β.le β1 → β1 d = some bd → DR β1 m m' →
      Sim P B w0 β1 (do let __do_lift ← newObj (.loop { state := .ready, pending := none, fn := fn, tmps := tmps, params := ps, assign := assign, body := body, defers := d }); pure (__do_lift, m))
        (do let __do_lift ← newObj (.loop { state := .ready, pending := none, fn := fn', tmps := tmps', params := ps, assign := assign, body := body, defers := bd.r }); pure (__do_lift, m'))
        (fun β (x x' : Nat × List Deferred) => (∃ bi, β x.1 = some bi ∧ x'.1 = bi.r) ∧ DR β x.2 x'.2) := by
    intro β1 d bd m m' hle h1 h3
    refine Sim.bind (sim_newObj (fun β2 r hle2 => .loop (hle2 _ _ h1) (ht.mono (hle.trans hle2))) (fun _ _ _ h => by cases h)) fun β2 l l' hle2 hl => ?_
    obtain ⟨bi, h4, rfl, _⟩ := hl
    exact Sim.pure fun β3 hle3 => ⟨⟨bi, hle3 _ _ h4, rfl⟩, h3.mono (hle2.trans hle3)⟩
  dsimp only
  cases ro with
  | none =>
    cases ro' with
    | some _ => exact hro.elim
    | none =>
      dsimp only
      refine Sim.bind (sim_newObj (o := .deferred (some [])) (o' := .deferred (some [])) (fun _ _ _ => .deferred) (fun _ _ _ h => by cases h)) fun β1 r r' hle hr => ?_
      obtain ⟨bi, h1, rfl, _⟩ := hr
      simp only [pure_bind]
      exact tail hle h1 ⟨⟨r, bi, rfl, rfl, h1⟩, trivial⟩
  | some l =>
    cases ro' with
    | none => exact hro.elim
    | some l' =>
      obtain ⟨bi, hl, rfl⟩ := hro
      dsimp only
      refine Sim.bind (sim_getLoop hl) fun β1 r r' hle hr => ?_
      cases hr with
      | loop hd _ =>
        simp only [pure_bind]
        exact tail hle hd trivial

theorem sim_beginRound {l : Nat} {bi : BI} (hl : β l = some bi) : Sim P B w0 β (Instr.beginRound l) (Instr.beginRound bi.r) (fun _ _ _ => True) := by
  unfold Instr.beginRound
  refine Sim.bind (sim_getLoop hl) fun β1 r r' hle hr => ?_
  cases hr with
  | @loop st pe fn fn' tmps tmps' ps assign body df bd hd ht =>
    refine Sim.bind (sim_setObj (hle _ _ hl) (.loop hd ht) rfl (fun _ _ _ h => by cases h)) fun β2 _ _ hle2 _ => ?_
    cases st with
    | ready => exact Sim.pure fun _ _ => trivial
    | _ => exact Sim.never (never_runtimePanic _)

theorem sim_endRound {l : Nat} {bi : BI} (hl : β l = some bi) (jump : Option Code) : Sim P B w0 β (Instr.endRound l jump) (Instr.endRound bi.r jump) VR := by
  unfold Instr.endRound
  refine Sim.bind (sim_getLoop hl) fun β1 r r' hle hr => ?_
  cases hr with
  | @loop st pe fn fn' tmps tmps' ps assign body df bd hd ht =>
    exact Sim.bind (sim_setObj (hle _ _ hl) (.loop hd ht) rfl (fun _ _ _ h => by cases h)) fun β2 _ _ hle2 _ => Sim.pure fun _ _ => .bool _

theorem sim_endLoop {l : Nat} {bi : BI} (hl : β l = some bi) : Sim P B w0 β (Instr.endLoop l) (Instr.endLoop bi.r) (fun _ x y => x = y) := by
  unfold Instr.endLoop
  refine Sim.bind (sim_getLoop hl) fun β1 r r' hle hr => ?_
  cases hr with
  | @loop st pe fn fn' tmps tmps' ps assign body df bd hd ht =>
    dsimp only
    split
    · exact Sim.never (never_left (never_runtimePanic _))
    · exact Sim.bind (sim_setObj (hle _ _ hl) (.loop hd ht) rfl (fun _ _ _ h => by cases h)) fun β2 _ _ hle2 _ => Sim.pure fun _ _ => rfl

theorem sim_takeDeferred {l : Nat} {bi : BI} (hl : β l = some bi) : Sim P B w0 β (Instr.takeDeferred l) (Instr.takeDeferred bi.r) (fun _ x y => x = [] ∧ y = []) := by
  unfold Instr.takeDeferred
  refine Sim.bind (sim_getObj hl) fun β1 o o' hle ho => ?_
  obtain ⟨ho, _⟩ := ho
  cases ho with
  | deferred => exact Sim.bind (sim_setObj (hle _ _ hl) .taken rfl (fun _ _ _ h => by cases h)) fun β2 _ _ hle2 _ => Sim.pure fun _ _ => ⟨rfl, rfl⟩
  | _ => exact Sim.stuck

/-! ### Results -/
theorem rsim_asAddr {v v' : Value} {I : Beta → World → World → Prop} (h : VR β v v') : RSim I P β (asAddr v) (asAddr v') PR := by
  cases h with
  | ptr e => exact RSim.pure fun β1 hle => ⟨_, _, _, hle _ _ e, rfl, rfl⟩
  | nilPtr => exact RSim.never (s := runtimePanic .nilDeref) (never_runtimePanic _)
  | _ => exact RSim.stuck

theorem rsim_mapM {α : Type} {I : Beta → World → World → Prop} {f f' : α → Sem Value} : ∀ (l : List α) {β : Beta}, (∀ a, ∀ β1, β.le β1 → RSim I P β1 (f a) (f' a) VR) → RSim I P β (l.mapM f) (l.mapM f') LR
  | [], β, _ => RSim.pure fun _ _ => trivial
  | a :: l, β, hf => by
    rw [List.mapM_cons, List.mapM_cons]
    refine RSim.bind (hf a β (.refl _)) fun β1 v v' hle hv => ?_
    refine RSim.bind (rsim_mapM l fun b β2 hle2 => hf b β2 (hle.trans hle2)) fun β2 vs vs' hle2 hvs => RSim.pure fun β3 hle3 => ⟨hv.mono (hle2.trans hle3), LR.mono hle3 hvs⟩

theorem rsim_results (fn : Func) {tmps tmps' : Array Value} (ht : AR β tmps tmps') : RSim (R P B w0) P β (results fn tmps) (results fn tmps') VR := by
  unfold results
  have hget : ∀ (β1 : Beta), β.le β1 → ∀ t, VR β1 (tmps.getD t undef) (tmps'.getD t undef) := fun β1 hle t => by
    have := (Slots.getD (l := [t]) (a := ⟨tmps, []⟩) (a' := ⟨tmps', []⟩) (t := t) ⟨ht.1, fun s _ v v' e e' => (ht.mono hle).2 s v v' e e'⟩ (by simp))
    exact this
  refine RSim.bind (A := AR) ?_ fun β1 vs vs' hle hvs => RSim.pure fun β2 hle2 => ?_
  · rw [Array.mapM_eq_mapM_toList, Array.mapM_eq_mapM_toList]
    refine RSim.bind (rsim_mapM _ fun r β1 hle => ?_) fun β1 l l' hle hl => RSim.pure fun β2 hle2 => (LR.mono hle2 hl).ar
    cases r with
    | tmp t => exact RSim.pure fun β2 hle2 => hget β2 (hle.trans hle2) t
    | cell a t => exact RSim.bind (rsim_asAddr (hget β1 hle a)) fun β2 x x' hle2 hx => rsim_loadVar t hx
  · have hsz := hvs.1
    by_cases h1 : vs.size = 1
    · have h2 : vs'.size = 1 := hsz ▸ h1
      rw [dif_pos h1, dif_pos h2]
      exact (hvs.mono hle2).2 0 _ _ (by simp [h1]) (by simp [h2])
    · have h2 : vs'.size ≠ 1 := fun e => h1 (hsz.trans e)
      rw [dif_neg h1, dif_neg h2]
      have := hvs.mono hle2
      exact .tuple this.1 this.2

theorem fin_in {β0 : Beta} {n : Nat} {fn : Func} {Q : Value × World → Prop} : ∀ {ds ds' : List Deferred} {β : Beta} {tmps tmps' : Array Value} {σ w : World}, R P B w0 β σ w → β0.le β → AR β tmps tmps' → DR β ds ds' → (ifin P fn tmps ds σ).all Q →
    LeavesInM Fence.wide n P fn tmps' (Rets P B w0 β0 Q) ds' .returning w
  | [], [], β, tmps, tmps', σ, w, hR, hle, ht, _, hQ => by
    unfold ifin at hQ
    cases hs : (results fn tmps).run P σ with
    | halt x y => rw [hs] at hQ; exact hQ.elim
    | ok v σ1 =>
      rw [hs] at hQ
      obtain ⟨rfl, v', h1, h2⟩ := rsim_results fn ht β σ w (.refl _) hR v σ1 hs
      exact ⟨v', h1, β, v, σ1, hle, hR, h2, hQ⟩
  | d :: ds, d' :: ds', β, tmps, tmps', σ, w, hR, hle, ht, ⟨⟨l, bi, h1, h2, h3⟩, hr⟩, hQ => by
    unfold ifin at hQ
    rw [h1] at hQ
    simp only at hQ
    cases hs : (Instr.takeDeferred l).run P σ with
    | halt x y => rw [hs] at hQ; exact hQ.elim
    | ok v σ1 =>
      obtain ⟨β2, v', w', g1, g2, g3, rfl, rfl⟩ := sim_takeDeferred (P := P) (B := B) (w0 := w0) h3 β σ w (.refl _) hR v σ1 hs
      rw [hs] at hQ
      exact ⟨(fun e => by cases e), .inl ⟨bi.r, w', h2, g2, fin_in g3 (hle.trans g1) (ht.mono g1) (hr.mono g1) hQ⟩⟩
  | [], _ :: _, _, _, _, _, _, _, _, _, h, _ => h.elim
  | _ :: _, [], _, _, _, _, _, _, _, _, h, _ => h.elim

theorem eval_bool {a a' : Act} {c : Operand} {b : Bool} (h : ActR β a a') (hc : a.eval c = .bool b) : a'.eval c = .bool b := by
  cases c with
  | tmp t =>
    have hv : VR β (a.eval (.tmp t)) (a'.eval (.tmp t)) := (h.slots [t]).getD (by simp)
    rw [hc] at hv
    generalize a'.eval (.tmp t) = y at hv ⊢
    cases hv; rfl
  | const v => exact hc
  | global g => cases hc
  | func f => cases hc

/-! ### Code -/
theorem code_in (hm : P.follows .mixedOrders = true) {K : Kont} (hK : ∀ w0, KS P B w0 K) (fuel : Nat) (fn : FuncId) (n : Nat) : ∀ (c : Code) {ro ro' : Option Nat} {β : Beta} {aI aR : Act} {σ w : World} {Q : Exit × Act × World → Prop} {Qx : Exit → Act → World → Prop},
    R P B w0 β σ w → ActR β aI aR → RoR β ro ro' → (icode P K fuel fn ro c aI σ).all Q →
    (∀ β2 e a a' σ' w', β.le β2 → R P B w0 β2 σ' w' → ActR β2 a a' → Q (e, a, σ') → Qx e a' w') → c.wpIn (FF ro') n P Qx aR w := by
  intro c
  induction c with
  | skip => intro ro ro' β aI aR σ w Q Qx hR hA hro hQ hq; exact wpIn_skip (hq _ _ _ _ _ _ (.refl _) hR hA hQ)
  | region id ops draw =>
    intro ro ro' β aI aR σ w Q Qx hR hA hro hQ hq
    exact region_in hm hK hR hA (T.all_bind.1 hQ) fun β2 a a' σ' w' hle hR' hA' hQ' => hq β2 _ a a' σ' w' hle hR' hA' hQ'
  | seq x y ihx ihy =>
    intro ro ro' β aI aR σ w Q Qx hR hA hro hQ hq
    refine wpIn_seq (ihx hR hA hro (T.all_bind.1 hQ) fun β2 e a a' σ' w' hle hR' hA' hQ' => ?_)
    cases e with
    | normal => exact ihy hR' hA' (hro.mono hle) hQ' fun β3 e a a' σ' w' h3 => hq β3 e a a' σ' w' (hle.trans h3)
    | _ => exact hq β2 _ a a' σ' w' hle hR' hA' hQ'
  | cond c x y ihx ihy =>
    intro ro ro' β aI aR σ w Q Qx hR hA hro hQ hq
    unfold icode at hQ
    split at hQ
    · rename_i hc; exact wpIn_cond_true (eval_bool hA hc) (ihx hR hA hro hQ hq)
    · rename_i hc; exact wpIn_cond_false (eval_bool hA hc) (ihy hR hA hro hQ hq)
    · exact hQ.elim
  | block id c ih =>
    intro ro ro' β aI aR σ w Q Qx hR hA hro hQ hq
    refine wpIn_block (ih hR hA hro (T.all_bind.1 hQ) fun β2 e a a' σ' w' hle hR' hA' hQ' => ?_)
    cases e with
    | exit id' =>
      simp only [T.all] at hQ'
      simp only [Exit.inBlock]
      split
      · rename_i h; simp only [h, if_true] at hQ'; exact hq β2 _ a a' σ' w' hle hR' hA' hQ'
      · rename_i h; simp only [h, if_false] at hQ'; exact hq β2 _ a a' σ' w' hle hR' hA' hQ'
    | _ => exact hq β2 _ a a' σ' w' hle hR' hA' hQ'
  | loop c ih =>
    intro ro ro' β aI aR σ w Q Qx hR hA hro hQ hq
    refine wpIn_loop_ghost (fun m a' w' => ∃ β2 a σ', β.le β2 ∧ R P B w0 β2 σ' w' ∧ ActR β2 a a' ∧ (iloop (icode P K fuel fn ro c) m a σ').all Q) fuel ⟨β, aI, σ, .refl _, hR, hA, hQ⟩ ?_
    rintro m a' w' ⟨β2, a, σ', hle, hR', hA', hQ'⟩
    cases m with
    | zero => exact hQ'.elim
    | succ m =>
      refine ih hR' hA' (hro.mono hle) (T.all_bind.1 hQ') fun β3 e a a' σ' w' h3 hR2 hA2 hQ2 => ?_
      cases e with
      | normal => exact ⟨m, Nat.lt_succ_self m, β3, a, σ', hle.trans h3, hR2, hA2, hQ2⟩
      | _ => exact hq β3 _ a a' σ' w' (hle.trans h3) hR2 hA2 hQ2
  | rangeFunc g ps assign body _ _ =>
    intro ro ro' β aI aR σ w Q Qx hR hA hro hQ hq
    unfold icode at hQ
    refine wpIn_rangeFunc fun fn' _ => ?_
    cases hen : (Instr.enterLoop fn aI.tmps ps assign body ro).run P σ with
    | halt x y => rw [hen] at hQ; exact hQ.elim
    | ok lm σ1 =>
      obtain ⟨l, mark⟩ := lm
      rw [hen] at hQ
      simp only at hQ
      obtain ⟨β1, ⟨l', mark'⟩, w1, hle1, hrun1, hR1, ⟨bi, hl, rfl⟩, hmark⟩ := sim_enterLoop (P := P) (B := B) (w0 := w0) fn fn' ps assign body hA.tmps hro β σ w (.refl _) hR _ σ1 hen
      simp only at hl hmark
      split at hQ
      · rename_i f first captured hcf hg
        split at hQ
        · rename_i hbody
          have hv : VR β1 (aI.eval g) (aR.eval g) := eval_vr hcf fun t e => ((hA.mono hle1).slots [t]).getD (by simp)
          rw [hg] at hv
          obtain ⟨cap', hcap, heq⟩ : ∃ cap', AR β1 captured cap' ∧ aR.eval g = .func (.func f) #[] cap' := by
            generalize aR.eval g = y at hv ⊢
            cases hv with
            | func hf hs hc =>
              cases hf with
              | func => exact ⟨_, ⟨hs, hc⟩, rfl⟩
          simp only [Option.any_eq_true, Bool.and_eq_true, bne_iff_ne, ne_eq] at hbody
          obtain ⟨fnc, hfn, hb1, hb2⟩ := hbody
          have hb3 : fnc.body.isNone = false := by cases hfb : fnc.body <;> simp_all
          have hb4 : (fnc.name == "runtime.NumGoroutine") = false := by simpa using hb2
          have hargs : AR β1 (#[.func (.yield l) #[] #[]] ++ captured) (#[] ++ #[.func (.yield bi.r) #[] #[]] ++ cap') := by
            refine AR.append ?_ hcap
            refine ⟨rfl, fun i v v' e e' => ?_⟩
            cases i with
            | zero =>
              simp at e e'
              subst e; subst e'
              exact .func (.yield hl) rfl (fun i v v' e => by simp at e)
            | succ i => simp at e
          refine ⟨bi.r, mark', w1, { target := .fn (.func f) cap', args := #[] ++ #[.func (.yield bi.r) #[] #[]] }, w1, f, #[] ++ #[.func (.yield bi.r) #[] #[]] ++ cap', w1, hrun1, ?_, (fun _ _ => trivial), ?_, (fun h => by cases h), ?_⟩
          · simp only [resolve, heq, Deferred.ofValue, Sem.run_pure]
            simp [Act.eval]
          · simp only [invoke, callFunc, Sem.run_bind, program, Sem.run, Result.andThen, hfn, hb3, hb4, Bool.false_eq_true, if_false]
            rfl
          · refine CallsIn.mono ((hK w0).enter hR1 hargs (T.all_bind.1 hQ) (n - 1)) fun e w3 he => ?_
            cases e with
            | returned v' =>
              obtain ⟨β3, v, σ3, h1, h2, _, h4⟩ := he
              have hl3 := h1 _ _ hl
              simp only at h4
              cases hel : (Instr.endLoop l).run P σ3 with
              | halt x y => rw [hel] at h4; exact h4.elim
              | ok jump σ4 =>
                rw [hel] at h4
                simp only at h4
                obtain ⟨β4, jump', w4, g1, g2, g3, rfl⟩ := sim_endLoop (P := P) (B := B) (w0 := w0) hl3 β3 σ3 w3 (.refl _) h2 jump σ4 hel
                have hle4 := hle1.trans (h1.trans g1)
                have hA4 : ActR β4 { aI with defers := mark ++ aI.defers } { aR with defers := mark' ++ aR.defers } := ⟨hA.tmps.mono hle4, (hmark.mono (h1.trans g1)).append (hA.defers.mono hle4)⟩
                refine ⟨jump, w4, g2, ?_⟩
                cases jump with
                | none => exact hq β4 _ _ _ _ _ hle4 g3 hA4 h4
                | some c =>
                  cases c with
                  | ret => exact wpIn_ret (hq β4 _ _ _ _ _ hle4 g3 hA4 h4)
                  | exit id => exact wpIn_exit (hq β4 _ _ _ _ _ hle4 g3 hA4 h4)
                  | _ => exact h4.elim
            | panicked c => exact he.elim
            | outgrown => exact he.elim
        · exact hQ.elim
      · exact hQ.elim
  | exit id => intro ro ro' β aI aR σ w Q Qx hR hA hro hQ hq; exact wpIn_exit (hq _ _ _ _ _ _ (.refl _) hR hA hQ)
  | ret => intro ro ro' β aI aR σ w Q Qx hR hA hro hQ hq; exact wpIn_ret (hq _ _ _ _ _ _ (.refl _) hR hA hQ)
  | _ => intro ro ro' β aI aR σ w Q Qx hR hA hro hQ hq; exact hQ.elim

theorem call_in (hm : P.follows .mixedOrders = true) {K : Kont} (hK : ∀ w0, KS P B w0 K) {fuel : Nat} {f : FuncId} {args args' : Array Value} {σ w : World} {Q : Value × World → Prop} (hR : R P B w0 β σ w) (ha : AR β args args')
    (hQ : (icall P K fuel f args σ).all Q) (n : Nat) : CallsIn Fence.wide n P f args' w (Rets P B w0 β Q) := by
  unfold icall at hQ
  cases hf : P.funcs[f]? with
  | none => rw [hf] at hQ; exact hQ.elim
  | some fn =>
    rw [hf] at hQ
    simp only at hQ
    cases hb : fn.body with
    | none => rw [hb] at hQ; exact hQ.elim
    | some c =>
      rw [hb] at hQ
      simp only at hQ
      refine callsIn_of_wp_marks hf hb trivial ?_ rfl
      have hA : ActR β { tmps := args ++ Array.replicate (fn.ntmps - args.size) undef, defers := [] } { tmps := args' ++ Array.replicate (fn.ntmps - args'.size) undef, defers := [] } :=
        ⟨by rw [ha.1]; exact ha.append (AR.undef β _), trivial⟩
      refine code_in hm hK fuel f n c (ro := none) (ro' := none) hR hA trivial (T.all_bind.1 hQ) fun β2 e a a' σ' w' hle hR' hA' hQ' => ?_
      cases e with
      | normal => exact fin_in hR' hle hA'.tmps hA'.defers hQ'
      | ret => exact fin_in hR' hle hA'.tmps hA'.defers hQ'
      | _ => exact hQ'.elim

theorem round_in (hm : P.follows .mixedOrders = true) {K : Kont} (hK : ∀ w0, KS P B w0 K) {fuel : Nat} {l : Nat} {bi : BI} {f f' : FuncId} {tmps tmps' : Array Value} {assign body : Code} {σ w : World} {Q : Value × World → Prop} (hR : R P B w0 β σ w) (hl : β l = some bi)
    (ht : AR β tmps tmps') (hQ : (iround P K fuel l f tmps assign body σ).all Q) (n : Nat) : RoundIn Fence.wide n P bi.r f' tmps' assign body w (Rets P B w0 β Q) := by
  unfold iround at hQ
  have fin : ∀ (jump : Option Code) {β2 : Beta} {σ' w' : World}, β.le β2 → R P B w0 β2 σ' w' → (ofRun ((Instr.endRound l jump).run P σ')).all Q → ∃ v w2, (Instr.endRound bi.r jump).run P w' = .ok v w2 ∧ Rets P B w0 β Q (.returned v) w2 := by
    intro jump β2 σ' w' hle hR' hq
    cases hs : (Instr.endRound l jump).run P σ' with
    | halt x y => rw [hs] at hq; exact hq.elim
    | ok v σ2 =>
      rw [hs] at hq
      obtain ⟨β3, v', w2, g1, g2, g3, g4⟩ := sim_endRound (P := P) (B := B) (w0 := w0) (hle _ _ hl) jump β2 σ' w' (.refl _) hR' v σ2 hs
      exact ⟨v', w2, g2, β3, v, σ2, hle.trans g1, g3, g4, hq⟩
  refine roundIn_of_wpIn trivial ?_
  have hro : RoR β (some l) (some bi.r) := ⟨bi, hl, rfl⟩
  refine code_in hm hK fuel f n assign (ro := some l) (ro' := some bi.r) (aI := { tmps, defers := [] }) hR ⟨ht, trivial⟩ hro (T.all_bind.1 hQ) fun β2 e a a' σ' w' hle hR' hA' hQ' => ?_
  cases e with
  | normal =>
    simp only at hQ'
    cases hs : (Instr.beginRound l).run P σ' with
    | halt x y => rw [hs] at hQ'; exact hQ'.elim
    | ok u σ2 =>
      rw [hs] at hQ'
      simp only at hQ'
      obtain ⟨β3, u', w2, g1, g2, g3, _⟩ := sim_beginRound (P := P) (B := B) (w0 := w0) (hle _ _ hl) β2 σ' w' (.refl _) hR' u σ2 hs
      refine ⟨w2, g2, code_in hm hK fuel f n body (ro := some l) (ro' := some bi.r) g3 (hA'.mono g1) (hro.mono (hle.trans g1)) (T.all_bind.1 hQ') fun β4 e a2 a2' σ4 w4 h4 hR4 hA4 hQ4 => ?_⟩
      have hle4 := hle.trans (g1.trans h4)
      cases e with
      | normal => exact fin none hle4 hR4 hQ4
      | ret => exact fin _ hle4 hR4 hQ4
      | exit id => exact fin _ hle4 hR4 hQ4
      | _ => exact hQ4.elim
  | _ => exact hQ'.elim

/-- **THE LAW**: what the ideal run comes to, the machine comes to. -/
theorem run_KS (hm : P.follows .mixedOrders = true) (B : Nat) (w0 : Base) : ∀ n, KS P B w0 (run P n)
  | 0 => ⟨fun _ _ hQ => hQ.elim, fun _ _ _ hQ => hQ.elim⟩
  | n + 1 => ⟨fun hR ha hQ => call_in hm (fun w0 => run_KS hm B w0 n) hR ha hQ, fun hR hl ht hQ => round_in hm (fun w0 => run_KS hm B w0 n) hR hl ht hQ⟩

theorem calls_of_run (hm : P.follows .mixedOrders = true) {m : Nat} {f : FuncId} {args args' : Array Value} {σ w : World} {Q : Value × World → Prop} (hR : R P B w0 β σ w) (ha : AR β args args')
    (hQ : ((run P m).enter f args σ).all Q) : Calls P f args' w (Rets P B w0 β Q) := callsIn_wide.1 ((run_KS hm B w0 m).enter hR ha hQ 0)
end
end Go.Ideal
