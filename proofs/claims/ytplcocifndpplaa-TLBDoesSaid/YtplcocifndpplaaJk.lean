/-
  What must hold ahead is enough.
-/
import Derived.Test.YtplcocifndpplaaJj
namespace Go.Ideal
open Go

section
variable {P : Program} {K : Kont}

theorem arr_of {a : Act} {n : Nat} (h : a.tmps.size = n) : arr n (Env.of a.tmps) = a.tmps := by
  subst h
  apply Array.ext (by simp [arr])
  intro i h1 h2
  simp [arr, Env.of, Array.getD_eq_getD_getElem?, h2]

theorem lowOp_read {op : Op} {ty : TypeId} {s : SOp} {a : Act} {w w' : World} {v : Value} (hr : rereads op = true) (hc : op.operands.all constFit = true) (hl : lowOp P op = some s) (h : sone P K (ev (Env.of a.tmps)) w s = .ret (v, w')) :
    ∃ w2, pstep P a.eval op ty w = .ret (.value v, w2) := by
  rw [eval_env]
  generalize ev (Env.of a.tmps) = ρ at *
  cases op with
  | load t x =>
    simp only [lowOp, Option.map_eq_some_iff] at hl
    obtain ⟨n, ha, rfl⟩ := hl
    obtain ⟨r, hr, hq⟩ := ok_load (Q := fun r => r = (v, w')) ha (by show (sone P K ρ w (.load n x)).all _; rw [h]; exact rfl)
    simp only [Prod.mk.injEq] at hq
    refine ⟨w, ?_⟩
    simp only [pstep, istep, hc, if_true, execOp, Sem.run_bind, hr, Result.andThen, Sem.run_pure, ofRun, hq.1]
  | lookup t x k ok =>
    simp only [lowOp] at hl
    split at hl
    · rename_i kt et hu
      split at hl
      · rename_i kk i hk hi
        split at hl
        · rename_i z hz
          split at hl
          · rename_i hs
            simp only [Option.some.injEq] at hl; subst hl
            obtain ⟨r, hr, hq, hkf⟩ := ok_lookup (Q := fun r => r = (v, w')) hu hk hi hz (by show (sone P K ρ w (.lookup kk z x k ok)).all _; rw [h]; exact rfl)
            simp only [Prod.mk.injEq] at hq
            have h1 : elemOk P t = true := by unfold elemOk; rw [hu]; exact zeroOk_of hi hz hs
            have h2 : keyTy P t = true := by unfold keyTy isInt; rw [hu]; simp only [hk]
            have h3 : (keyFit (ρ k) && elemOk P t && keyTy P t) = true := by simp [hkf, h1, h2]
            refine ⟨w, ?_⟩
            simp only [pstep, istep, hc, if_true, execOp, h3, Sem.run_bind, hr, Result.andThen, Sem.run_pure, ofRun, hq.1]
          · cases hl
        · cases hl
      · cases hl
    · cases hl
  | slice t x lo hi mx =>
    simp only [lowOp] at hl
    split at hl
    · rename_i e hu
      simp only [Option.map_eq_some_iff] at hl
      obtain ⟨i, hi', rfl⟩ := hl
      have := ok_slice (P := P) (w := w) (Q := fun r => r = (v, w')) hu hi' (by show (sone P K ρ w (.slice e i.size x lo hi mx)).all _; rw [h]; exact rfl)
      rcases flat_islice P t (ρ x) (lo.map ρ) (hi.map ρ) (mx.map ρ) w with ⟨r, hr⟩ | hr
      · rw [hr] at this
        have hrv : r = (v, w') := this
        refine ⟨w', ?_⟩
        simp only [pstep, istep, hc, if_true, hr, hrv, T.bind]
      · rw [hr] at this; exact this.elim
    · cases hl
  | call c =>
    have hcal : c.callee = .builtin .len := by
      obtain ⟨callee, args, at_⟩ := c
      cases callee with
      | builtin b => cases b <;> first | rfl | cases hr
      | _ => cases hr
    have he := run_builtin (ty := ty) (ρ := ρ) hcal rfl rfl
    obtain ⟨callee, args, at_⟩ := c
    simp only at hcal; subst hcal
    simp only [lowOp] at hl
    split at hl
    · rename_i t x ht hx
      have h1 : (args.map ρ)[0]? = some (ρ x) := by rw [Array.getElem?_map, hx]; rfl
      split at hl
      · rename_i e hu
        simp only [Option.some.injEq] at hl; subst hl
        obtain ⟨r, hr, hq⟩ := ok_len (P := P) (ty := ty) (Q := fun r => r = (v, w')) ht h1 hu (by show (sone P K ρ w (.len x)).all _; rw [h]; exact rfl)
        simp only [Prod.mk.injEq] at hq
        refine ⟨w, ?_⟩
        simp only [pstep, istep, hc, if_true, he, builtin, Sem.run_bind, hr, Result.andThen, Sem.run_pure, ofRun, hq.1]
      · rename_i k e hu
        simp only [Option.some.injEq] at hl; subst hl
        obtain ⟨r, hr, hq⟩ := ok_lenMap (P := P) (ty := ty) (Q := fun r => r = (v, w')) ht h1 hu (by show (sone P K ρ w (.lenMap x)).all _; rw [h]; exact rfl)
        simp only [Prod.mk.injEq] at hq
        refine ⟨w, ?_⟩
        simp only [pstep, istep, hc, if_true, he, builtin, Sem.run_bind, hr, Result.andThen, Sem.run_pure, ofRun, hq.1]
      · cases hl
    · cases hl
  | _ => cases hr

theorem again_ok {n : Nat} {a : Act} {w : World} (hs : a.tmps.size = n) : ∀ (l : List PR0) (m : List SR), l.mapM (lowRe P n) = some m → sagain P K (Env.of a.tmps) w m = true → pagain P a w l = true
  | [], m, hl, _ => rfl
  | r :: l, m, hl, h => by
    simp only [List.mapM_cons, Option.bind_eq_bind, Option.bind_eq_some_iff, Option.pure_def, Option.some.injEq] at hl
    obtain ⟨s, hs1, m', hm', rfl⟩ := hl
    have hsplit : sagain P K (Env.of a.tmps) w (s :: m') = (((!wantS (Env.of a.tmps) s.g) || match sone P K (ev (Env.of a.tmps)) w s.o with | .ret (v, _) => (match s.d with | some d => veq 4 v (Env.of a.tmps d) | none => false) | _ => false) && sagain P K (Env.of a.tmps) w m') := rfl
    rw [hsplit, Bool.and_eq_true] at h
    have hrest := again_ok hs l m' hm' h.2
    have hcons : pagain P a w (r :: l) = (((!want a.tmps r.gd) || match pstep P a.eval r.op r.ty w with | .ret (.value v, _) => (match r.dst with | some d => (match a.tmps[d]? with | some u => veq 4 v u | none => false) | none => false) | _ => false) && pagain P a w l) := rfl
    rw [hcons, hrest, Bool.and_true]
    unfold lowRe at hs1
    split at hs1
    · rename_i hc
      simp only [Bool.and_eq_true] at hc
      simp only [Option.map_eq_some_iff] at hs1
      obtain ⟨so, hso, rfl⟩ := hs1
      have h1 := h.1
      simp only at h1
      rw [want_of]
      cases hw : wantS (Env.of a.tmps) r.gd with
      | false => rfl
      | true =>
        rw [hw] at h1
        simp only [Bool.not_true, Bool.false_or] at h1 ⊢
        split at h1
        · rename_i v w' hsone
          obtain ⟨w2, hp⟩ := lowOp_read (ty := r.ty) hc.1.2 hc.1.1 hso hsone
          rw [hp]
          simp only
          split at h1
          · rename_i d hd
            have hlt : d < n := by have := hc.2; rw [hd] at this; simpa [below] using this
            have hlt' : d < a.tmps.size := by rw [hs]; exact hlt
            simp only [Env.of, Array.getD_eq_getD_getElem?] at h1
            rw [Array.getElem?_eq_getElem hlt'] at h1 ⊢
            exact h1
          · cases h1
        · cases h1
    · cases hs1

theorem ops_ok {n : Nat} : ∀ (l : List PO) (m : List SG), l.mapM (lowPO P n) = some m → ∀ {a : Act} {w : World} {Q : Env → World → Prop}, a.tmps.size = n → wpOps P K m (Env.of a.tmps) w Q →
    (pops P K l a w).all fun r => r.1.tmps.size = n ∧ r.1.defers = a.defers ∧ Q (Env.of r.1.tmps) r.2
  | [], m, hl, a, w, Q, hs, h => by
    simp only [List.mapM_nil, Option.pure_def, Option.some.injEq] at hl; subst hl
    exact ⟨hs, rfl, h⟩
  | o :: l, m, hl, a, w, Q, hs, h => by
    simp only [List.mapM_cons, Option.bind_eq_bind, Option.bind_eq_some_iff, Option.pure_def, Option.some.injEq] at hl
    obtain ⟨s, hs1, m', hm', rfl⟩ := hl
    unfold lowPO at hs1
    split at hs1
    · rename_i hb
      simp only [Option.map_eq_some_iff] at hs1
      obtain ⟨re, hre, rfl⟩ := hs1
      obtain ⟨hy, hn⟩ := h
      have fin : ∀ (v : Value) (w' : World), (sagain P K ((Env.of a.tmps).put o.dst v) w' re = true ∧ wpOps P K m' ((Env.of a.tmps).put o.dst v) w' Q) →
          (if pagain P (a.put o.dst v) w' o.re then pops P K l (a.put o.dst v) w' else .bad).all fun r => r.1.tmps.size = n ∧ r.1.defers = a.defers ∧ Q (Env.of r.1.tmps) r.2 := by
        intro v w' hv
        obtain ⟨p1, p2, p3⟩ := put_of hs hb v
        rw [← p2] at hv
        rw [if_pos (again_ok p1 o.re re hre hv.1), ← p3]
        exact ops_ok l m' hm' p1 hv.2
      unfold pops pone
      rw [want_of]
      cases hw : wantS (Env.of a.tmps) o.gd with
      | true =>
        rw [if_pos rfl]
        refine T.all_bind.2 (T.all_bind.2 ?_)
        exact lowAny_ok (T.all_mono (fun r hr => fin r.1 r.2 hr) (hy hw))
      | false =>
        rw [if_neg (by simp)]
        exact fin undef w (hn hw)
    · cases hs1

theorem wpC_ok {fuel : Nat} {fn : FuncId} {ro : Option Nat} {n : Nat} : ∀ (c : PC) {a : Act} {w : World} {Q : SPost}, a.tmps.size = n → wpC P K fuel fn ro n (lowC P n c) (Env.of a.tmps) a.defers w Q →
    (pcode P K fuel fn ro c a w).all fun r => r.2.1.tmps.size = n ∧ Q r.1 (Env.of r.2.1.tmps) r.2.1.defers r.2.2 := by
  intro c
  induction c with
  | skip => intro a w Q hs h; exact ⟨hs, h⟩
  | ret => intro a w Q hs h; exact ⟨hs, h⟩
  | bad => intro a w Q hs h; exact h
  | exit id => intro a w Q hs h; exact ⟨hs, h⟩
  | ops l =>
    intro a w Q hs h
    unfold lowC at h
    split at h
    · rename_i m hm
      refine T.all_bind.2 (T.all_mono (fun r hr => ?_) (ops_ok l m hm hs h))
      obtain ⟨h1, h2, h3⟩ := hr
      exact ⟨h1, by rw [h2]; exact h3⟩
    · exact h.elim
  | seq x y ihx ihy =>
    intro a w Q hs h
    refine T.all_bind.2 (T.all_mono (fun r hr => ?_) (ihx hs h))
    obtain ⟨e, a', w'⟩ := r
    obtain ⟨h1, h2⟩ := hr
    cases e with
    | normal => exact ihy h1 h2
    | _ => exact ⟨h1, h2⟩
  | cond c x y ihx ihy =>
    intro a w Q hs h
    unfold pcode
    unfold lowC wpC at h
    rw [eval_env]
    split at h
    · rename_i b hb
      rw [hb]
      cases b with
      | true => exact ihx hs (h.1 rfl)
      | false => exact ihy hs (h.2 rfl)
    · exact h.elim
  | block id c ih =>
    intro a w Q hs h
    refine T.all_bind.2 (T.all_mono (fun r hr => ?_) (ih hs h))
    obtain ⟨e, a', w'⟩ := r
    obtain ⟨h1, h2⟩ := hr
    refine ⟨h1, ?_⟩
    cases e with
    | exit id' =>
      simp only at h2 ⊢
      split at h2
      · rename_i hi; rw [if_pos hi]; exact h2
      · rename_i hi; rw [if_neg hi]; exact h2
    | _ => exact h2
  | loop c ih =>
    intro a w Q hs h
    have key : ∀ (k : Nat) (a : Act) (w : World), a.tmps.size = n → wpLoop (wpC P K fuel fn ro n (lowC P n c)) k (Env.of a.tmps) a.defers w Q →
        (iloop (pcode P K fuel fn ro c) k a w).all fun r => r.2.1.tmps.size = n ∧ Q r.1 (Env.of r.2.1.tmps) r.2.1.defers r.2.2 := by
      intro k
      induction k with
      | zero => intro a w hs h; exact h
      | succ k ihk =>
        intro a w hs h
        refine T.all_bind.2 (T.all_mono (fun r hr => ?_) (ih hs h))
        obtain ⟨e, a', w'⟩ := r
        obtain ⟨h1, h2⟩ := hr
        cases e with
        | normal => exact ihk a' w' h1 h2
        | _ => exact ⟨h1, h2⟩
    exact key fuel a w hs h
  | rangeFunc g ps assign body =>
    intro a w Q hs h
    unfold lowC wpC at h
    rw [arr_of hs] at h
    exact h

theorem run_cell {t : TypeId} {n : Option Nat} (ha : aggOf P t = some n) {a v : Value} {w w' : World} (h : loadS n a w = .ret (v, w')) : (do loadVar t (← asAddr a) : Sem Value).run P w = .ok v w := by
  obtain ⟨r, hr, hq⟩ := ok_load (P := P) (Q := fun r => r.1 = v) ha (by rw [h]; exact rfl)
  simp only at hq
  subst hq
  cases a with
  | pointer p =>
    cases p with
    | none => simp [loadS] at h
    | some x => simpa [Instr.loadAt, Instr.sureAddr, asAddr] using hr
  | _ => simp [loadS] at h

theorem run_res {fn : Func} {rs : List RS} (h : tmpsOf P fn.results.toList = some rs) (tmps : Array Value) (w : World) {vs : List Value} (hv : resL rs (Env.of tmps) w = some vs) : (results fn tmps).run P w = .ok (oneOf vs) w := by
  have key : ∀ (f : ResultVar → Sem Value), (∀ t, f (.tmp t) = pure (tmps.getD t undef)) → (∀ a t, f (.cell a t) = do loadVar t (← asAddr (tmps.getD a undef))) → ∀ (l : List ResultVar) (rs : List RS) (vs : List Value), tmpsOf P l = some rs → resL rs (Env.of tmps) w = some vs → (l.mapM f).run P w = .ok vs w := by
    intro f hf hf2 l
    induction l with
    | nil => intro rs vs h hv; simp only [tmpsOf, Option.some.injEq] at h; subst h; simp only [resL, Option.some.injEq] at hv; subst hv; rfl
    | cons x l ih =>
      intro rs vs h hv
      cases x with
      | tmp t =>
        simp only [tmpsOf, Option.map_eq_some_iff] at h
        obtain ⟨rs', h', rfl⟩ := h
        simp only [resL, Option.map_eq_some_iff] at hv
        obtain ⟨vs', hv', rfl⟩ := hv
        simp only [List.mapM_cons, Sem.run_bind, Sem.run_pure, Result.andThen, ih rs' vs' h' hv', hf]
        rfl
      | cell a t =>
        simp only [tmpsOf] at h
        split at h
        · rename_i n hn
          simp only [Option.map_eq_some_iff] at h
          obtain ⟨rs', h', rfl⟩ := h
          simp only [resL] at hv
          split at hv
          · rename_i v w' hl
            simp only [Option.map_eq_some_iff] at hv
            obtain ⟨vs', hv', rfl⟩ := hv
            have hc := run_cell (P := P) hn hl
            simp only [Env.of] at hc
            simp only [List.mapM_cons, hf2, Sem.run_bind] at hc ⊢
            rw [hc]
            simp only [Result.andThen, ih rs' vs' h' hv', Sem.run_pure]
          · cases hv
        · cases h
  unfold results
  rw [Array.mapM_eq_mapM_toList, map_eq_pure_bind]
  simp only [bind_assoc, pure_bind, Sem.run_bind]
  rw [key _ (fun t => rfl) (fun a t => rfl) _ _ _ h hv]
  simp only [Result.andThen, Sem.run_pure]
  congr 1
  unfold oneOf
  match vs with
  | [] => rfl
  | [t] => rfl
  | t :: u :: l => simp

theorem wpFin_ok {fn : Func} {rs : List RS} (h : tmpsOf P fn.results.toList = some rs) (tmps : Array Value) {Q : Value × World → Prop} : ∀ (ds : List Deferred) (w : World), wpFin P ds w (fun w => wpRes rs (Env.of tmps) w fun v => Q (v, w)) → (ifin P fn tmps ds w).all Q
  | [], w, hw => by
    have hw' : wpRes rs (Env.of tmps) w fun v => Q (v, w) := hw
    unfold wpRes at hw'
    split at hw'
    · rename_i vs hvs
      unfold ifin; rw [run_res h tmps w hvs]; exact hw'
    · exact hw'.elim
  | d :: ds, w, hw => by
    unfold ifin
    unfold wpFin at hw
    split at hw
    · split at hw
      · rename_i hd _ _ hr
        simp only [hd, hr]
        exact wpFin_ok h tmps ds _ hw
      · exact hw.elim
    · exact hw.elim

theorem wpFn_ok {fuel : Nat} {f : FuncId} {sf : SFn} (hf : lowFn P f = some sf) {args : Array Value} {w : World} {Q : Value → World → Prop} (h : wpFn P K fuel f sf args w Q) : (icall P K fuel f args w).all fun r => Q r.1 r.2 := by
  unfold lowFn at hf
  split at hf
  · rename_i fn hfn
    split at hf
    · rename_i c rs hc hrs
      simp only [Option.some.injEq] at hf; subst hf
      obtain ⟨hsz, hw⟩ := h
      simp only at hsz hw
      unfold icall
      rw [hfn]; simp only [hc]
      have henv : Env.of (args ++ Array.replicate (fn.ntmps - args.size) undef) = Env.of args := by
        funext i
        simp only [Env.of, Array.getD_eq_getD_getElem?, Array.getElem?_append]
        by_cases hi : i < args.size
        · rw [if_pos hi]
        · rw [if_neg hi, Array.getElem?_replicate, Array.getElem?_eq_none (show args.size ≤ i by omega)]
          split <;> rfl
      rw [← henv] at hw
      have := icode_pc (Q := fun r : Exit × Act × World => r.2.1.tmps.size = fn.ntmps ∧ ((r.1 = .normal ∨ r.1 = .ret) ∧ wpFin P r.2.1.defers r.2.2 fun w => wpRes rs (Env.of r.2.1.tmps) w fun v => Q v w)) c
        (wpC_ok (a := { tmps := args ++ Array.replicate (fn.ntmps - args.size) undef, defers := [] }) (pcOf c) (by simp; omega) hw)
      refine T.all_bind.2 (T.all_mono (fun r hr => ?_) this)
      obtain ⟨e, a, w'⟩ := r
      obtain ⟨_, he, hfin⟩ := hr
      rcases he with rfl | rfl
      · exact wpFin_ok (Q := fun r => Q r.1 r.2) hrs a.tmps a.defers w' hfin
      · exact wpFin_ok (Q := fun r => Q r.1 r.2) hrs a.tmps a.defers w' hfin
    · cases hf
  · cases hf
end
end Go.Ideal
