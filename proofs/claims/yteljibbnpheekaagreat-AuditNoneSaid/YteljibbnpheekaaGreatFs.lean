/-
  The fast evaluator: memory that is written down; calls that were answered once.
-/
import Derived.Test.YteljibbnpheekaaGreatFi
namespace Go.Ideal
open Go
namespace W
abbrev bt : Value := .bool true
abbrev bf : Value := .bool false
abbrev p (b o : Nat) : Value := .pointer (some ⟨b, o, none⟩)
abbrev m (b : Nat) : Value := .map (some b)
abbrev sl (b o l c : Nat) : Value := .slice (some ⟨b, o, none⟩) l c
abbrev so (b o l : Nat) : Value := .slice (some ⟨b, o, none⟩) l OPEN
noncomputable def cl (e : TypeId) (l : List Value) : FO := .cells (lenR l) (Tr.put l .lf 0) e (0, 0)
noncomputable def cf (k : Nat) (e : TypeId) (z : Value) (l : List (Nat × Value)) : FO := .cells k (List.rec (motive := fun _ => Tr Value) (Tr.fill z 21) (fun q _ h => h.set q.1 q.2) l) e (0, 0)
abbrev mp (k : Nat) (es : List MapEntry) : FO := .other (.map ⟨es⟩ k)
end W
noncomputable def andR (a b : Bool) : Bool := Bool.rec (motive := fun _ => Bool) false b a
theorem andR_true {a b : Bool} (h : andR a b = true) : a = true ∧ b = true := by
  cases a with
  | false => cases h
  | true => exact ⟨rfl, h⟩
noncomputable def eqVi (k : IntKind) (n : Int) (b : Value) : Bool := match b with
  | .int j m => andR (Nat.beq (kIx k) (kIx j)) (eqI n m)
  | _ => false
noncomputable def eqVb (x : Bool) (b : Value) : Bool := match b with
  | .bool y => Bool.rec (motive := fun _ => Bool) (not y) y x
  | _ => false
noncomputable def eqVp (x o : Nat) (b : Value) : Bool := match b with
  | .pointer (some ⟨y, q, none⟩) => andR (Nat.beq x y) (Nat.beq o q)
  | _ => false
noncomputable def eqV (a b : Value) : Bool := match a with
  | .int k n => eqVi k n b
  | .bool x => eqVb x b
  | .pointer (some ⟨x, o, none⟩) => eqVp x o b
  | v => veq 4 v b
theorem eqV_eq {a b : Value} (h : eqV a b = true) : a = b := by
  unfold eqV at h
  split at h
  · unfold eqVi at h
    split at h
    · obtain ⟨h1, h2⟩ := andR_true h
      have := kIx_inj h1
      rw [eqI_eq] at h2
      have := of_decide_eq_true h2
      subst_vars; rfl
    · cases h
  · unfold eqVb at h
    split at h
    · rename_i x _ y
      cases x <;> cases y <;> first | rfl | exact absurd h (by decide)
    · cases h
  · unfold eqVp at h
    split at h
    · obtain ⟨h1, h2⟩ := andR_true h
      have := Nat.eq_of_beq_eq_true h1
      have := Nat.eq_of_beq_eq_true h2
      subst_vars; rfl
    · cases h
  · exact veq_eq 4 _ _ h
noncomputable def none1 (skip : Bool) (n : Nat) : Bool := Bool.rec (motive := fun _ => Bool) (Bool.rec (motive := fun _ => Bool) false (Nat.ble n 1) skip) true (Nat.beq n 0)
noncomputable def Tr.eqN {α : Type} (e : α → α → Bool) (t : Tr α) : Tr α → Bool → Nat → Bool :=
  Tr.rec (motive := fun _ => Tr α → Bool → Nat → Bool) (fun u skip n => Tr.rec (motive := fun _ => Bool) true (fun _ _ _ _ _ => none1 skip n) u)
    (fun _ v _ hl hr u skip n => Bool.rec (motive := fun _ => Bool) (Tr.rec (motive := fun _ => Bool) false
      (fun l' v' r' _ _ => andR (Bool.rec (motive := fun _ => Bool) (Option.rec (motive := fun _ => Bool) (Option.rec (motive := fun _ => Bool) true (fun _ => false) v') (fun x => Option.rec (motive := fun _ => Bool) false (fun y => e x y) v') v) true skip)
        (andR (hl l' true (Nat.succ (Nat.div (Nat.sub n 1) 2))) (hr r' false (Nat.div n 2)))) u) true (none1 skip n)) t
theorem none1_ok {skip : Bool} {n i : Nat} (h : none1 skip n = true) (hi : i < n) (hs : skip = true → i ≠ 0) : False := by
  unfold none1 at h
  cases hb : Nat.beq n 0 with
  | true => have := Nat.eq_of_beq_eq_true hb; omega
  | false =>
    rw [hb] at h
    cases skip with
    | false => cases h
    | true =>
      have := Nat.le_of_ble_eq_true h
      have := hs rfl
      omega
theorem Tr.eqN_get {α : Type} {e : α → α → Bool} (he : ∀ a b, e a b = true → a = b) : ∀ (t u : Tr α) (skip : Bool) (n : Nat), t.eqN e u skip n = true → ∀ i, i < n → (skip = true → i ≠ 0) → t.get i = u.get i
  | .lf, .lf, _, _, _, _, _, _ => rfl
  | .lf, .nd _ _ _, skip, n, h, i, hi, hs => (none1_ok (skip := skip) (n := n) h hi hs).elim
  | .nd l v r, u, skip, n, h, i, hi, hs => by
    have h0 : (Bool.rec (motive := fun _ => Bool) (Tr.rec (motive := fun _ => Bool) false
      (fun l' v' r' _ _ => andR (Bool.rec (motive := fun _ => Bool) (Option.rec (motive := fun _ => Bool) (Option.rec (motive := fun _ => Bool) true (fun _ => false) v') (fun x => Option.rec (motive := fun _ => Bool) false (fun y => e x y) v') v) true skip)
        (andR (l.eqN e l' true (Nat.succ (Nat.div (Nat.sub n 1) 2))) (r.eqN e r' false (Nat.div n 2)))) u) true (none1 skip n)) = true := h
    cases hn : none1 skip n with
    | true => exact (none1_ok hn hi hs).elim
    | false =>
      rw [hn] at h0
      cases u with
      | lf => cases h0
      | nd l' v' r' =>
        obtain ⟨h1, h2⟩ := andR_true h0
        obtain ⟨h3, h4⟩ := andR_true h2
        rw [Tr.get_nd, Tr.get_nd]
        by_cases h5 : i = 0
        · rw [if_pos h5, if_pos h5]
          cases skip with
          | true => exact absurd h5 (hs rfl)
          | false =>
            cases v with
            | none => cases v' with
              | none => rfl
              | some y => cases h1
            | some x => cases v' with
              | none => cases h1
              | some y => rw [he x y h1]
        · rw [if_neg h5, if_neg h5]
          by_cases h6 : i % 2 = 0
          · rw [if_pos h6, if_pos h6]
            refine Tr.eqN_get he l l' true _ h3 _ ?_ (fun _ => by omega)
            show i / 2 < (n - 1) / 2 + 1
            omega
          · rw [if_neg h6, if_neg h6]
            refine Tr.eqN_get he r r' false _ h4 _ ?_ (fun h => by cases h)
            show i / 2 < n / 2
            omega
noncomputable def eqEs (l m : List MapEntry) : Bool := List.rec (motive := fun _ => List MapEntry → Bool) (fun m => List.rec (motive := fun _ => Bool) true (fun _ _ _ => false) m)
  (fun x _ h m => List.rec (motive := fun _ => Bool) false (fun y m' _ => andR (andR (eqV x.key y.key) (eqV x.val y.val)) (andR (Nat.beq x.born y.born) (h m'))) m) l m
theorem eqEs_eq : ∀ (l m : List MapEntry), eqEs l m = true → l = m
  | [], [], _ => rfl
  | [], _ :: _, h => by cases h
  | _ :: _, [], h => by cases h
  | x :: l, y :: m, h => by
    obtain ⟨h1, h2⟩ := andR_true (a := andR (eqV x.key y.key) (eqV x.val y.val)) (b := andR (Nat.beq x.born y.born) (eqEs l m)) h
    obtain ⟨h3, h4⟩ := andR_true h1
    obtain ⟨h5, h6⟩ := andR_true h2
    rw [eqEs_eq l m h6]
    obtain ⟨a, b, c⟩ := x
    obtain ⟨a', b', c'⟩ := y
    have e1 := eqV_eq h3
    have e2 := eqV_eq h4
    have e3 := Nat.eq_of_beq_eq_true h5
    simp only at e1 e2 e3
    subst e1; subst e2; subst e3
    rfl
noncomputable def eqO (a b : FO) : Bool := match a, b with
  | .cells n t e (0, 0), .cells n' t' e' (0, 0) => andR (andR (Nat.beq n n') (Nat.beq e e')) (t.eqN eqV t' false n)
  | .other (.map es k), .other (.map es' k') => andR (Nat.beq k k') (eqEs es.toList es'.toList)
  | _, _ => false
theorem eqO_sim {a b : FO} (h : eqO a b = true) {o : Obj} (hs : SimO b o) : SimO a o := by
  unfold eqO at h
  split at h
  · obtain ⟨h1, h2⟩ := andR_true h
    obtain ⟨h3, h4⟩ := andR_true h1
    have e1 := Nat.eq_of_beq_eq_true h3
    have e2 := Nat.eq_of_beq_eq_true h4
    subst e1; subst e2
    obtain ⟨c, hc, hcr⟩ := hs
    exact ⟨c, hc, hcr.1, fun i hi => by rw [hcr.2 i hi]; exact (Tr.eqN_get (fun _ _ h => eqV_eq h) _ _ _ _ h2 i hi (fun h => by cases h)).symm⟩
  · obtain ⟨h1, h2⟩ := andR_true h
    have e1 := Nat.eq_of_beq_eq_true h1
    have e2 := Array.ext' (eqEs_eq _ _ h2)
    subst e1; subst e2
    exact hs
  · cases h
noncomputable def inB (w : FW) (l : List (Nat × FO)) : Bool := List.rec (motive := fun _ => Bool) true (fun p _ h => andR (Option.rec (motive := fun _ => Bool) false (fun o => eqO p.2 o) (w.h.get p.1)) h) l
theorem inB_mem (w : FW) : ∀ (l : List (Nat × FO)), inB w l = true → ∀ p ∈ l, ∃ o, w.h.get p.1 = some o ∧ eqO p.2 o = true
  | [], _, p, hp => by cases hp
  | q :: l, h, p, hp => by
    obtain ⟨h1, h2⟩ := andR_true (a := Option.rec (motive := fun _ => Bool) false (fun o => eqO q.2 o) (w.h.get q.1)) (b := inB w l) h
    rcases List.mem_cons.1 hp with rfl | hp
    · cases ho : w.h.get p.1 with
      | none => rw [ho] at h1; cases h1
      | some o => rw [ho] at h1; exact ⟨o, rfl, h1⟩
    · exact inB_mem w l h2 p hp
theorem SimW.less {fw : FW} {w : World} (h : SimW fw w) {n : Nat} {l : List (Nat × FO)} (hn : Nat.beq fw.n n = true) (hl : inB fw l = true) : SimW ⟨n, Tr.ofL l⟩ w where
  size := by rw [h.size]; exact Nat.eq_of_beq_eq_true hn
  at_ := fun b fo hb => by
    obtain ⟨fo', h1, h2⟩ := inB_mem fw l hl _ (Tr.get_ofL l b fo hb)
    obtain ⟨o, h3, h4⟩ := h.at_ b fo' h1
    exact ⟨o, h3, eqO_sim h2 h4⟩
structure Memo where
  f : FuncId
  args : List Value
  n : Nat
  l : List (Nat × FO)
  v : Value
  n' : Nat
  l' : List (Nat × FO)
noncomputable def Memo.good (m : Memo) (r : Value × FW) : Bool := andR (eqV m.v r.1) (andR (Nat.beq r.2.n m.n') (inB r.2 m.l'))
def Memo.ran (K : FKont) (m : Memo) : Prop := ((K.enter m.f ⟨m.args⟩ ⟨m.n, Tr.ofL m.l⟩).allB m.good) = true
noncomputable def eqVs (l m : List Value) : Bool := List.rec (motive := fun _ => List Value → Bool) (fun m => List.rec (motive := fun _ => Bool) true (fun _ _ _ => false) m)
  (fun x _ h m => List.rec (motive := fun _ => Bool) false (fun y m' _ => andR (eqV x y) (h m')) m) l m
theorem eqVs_eq : ∀ (l m : List Value), eqVs l m = true → l = m
  | [], [], _ => rfl
  | [], _ :: _, h => by cases h
  | _ :: _, [], h => by cases h
  | x :: l, y :: m, h => by
    obtain ⟨h1, h2⟩ := andR_true (a := eqV x y) (b := eqVs l m) h
    rw [eqV_eq h1, eqVs_eq l m h2]
noncomputable def Memo.fits (m : Memo) (f : FuncId) (args : Array Value) (w : FW) : Bool := andR (Nat.beq f m.f) (andR (Nat.beq w.n m.n) (andR (eqVs m.args args.toList) (inB w m.l)))
noncomputable def recall (M : List Memo) (K : FKont) : FKont where
  enter f args w := List.rec (motive := fun _ => T (Value × FW)) (K.enter f args w) (fun m _ h => Bool.rec (motive := fun _ => T (Value × FW)) h (.ret (m.v, ⟨m.n', Tr.ofL m.l'⟩)) (m.fits f args w)) M
  round := K.round
theorem recall_ok {K0 K : FKont} {Kt : Kont} (h0 : KOk K0 Kt) (hK : KOk K Kt) : ∀ {M : List Memo}, (∀ m ∈ M, m.ran K0) → KOk (recall M K) Kt
  | [], _ => ⟨hK.enter, hK.round⟩
  | m :: M, hM => by
    have ih := recall_ok h0 hK (M := M) fun q hq => hM q (List.mem_cons_of_mem _ hq)
    refine ⟨fun f args fw w Q hs h => ?_, hK.round⟩
    have h1 : (Bool.rec (motive := fun _ => T (Value × FW)) ((recall M K).enter f args fw) (.ret (m.v, ⟨m.n', Tr.ofL m.l'⟩)) (m.fits f args fw)).all (Up Q) := h
    cases hf : m.fits f args fw with
    | false => rw [hf] at h1; exact ih.enter f args fw w Q hs h1
    | true =>
      rw [hf] at h1
      obtain ⟨a1, a2⟩ := andR_true hf
      obtain ⟨a3, a4⟩ := andR_true a2
      obtain ⟨a5, a6⟩ := andR_true a4
      have e1 := Nat.eq_of_beq_eq_true a1
      have e2 : args = ⟨m.args⟩ := by
        have := eqVs_eq _ _ a5
        exact Array.ext' this.symm
      subst e1; subst e2
      refine h0.enter _ _ _ _ _ (hs.less a3 a6) (T.all_of_allB (fun r hr w' hs' => ?_) (hM m List.mem_cons_self))
      obtain ⟨b1, b2⟩ := andR_true hr
      obtain ⟨b3, b4⟩ := andR_true b2
      have e3 := eqV_eq b1
      rw [← e3]
      exact h1 w' (hs'.less b3 b4)
theorem calls_K {P : Program} {H : HeapAns} (hm : P.follows .mixedOrders = true) (hL : LaidH P H) {m : Nat} {FK : FKont} (hK : KOk FK (runH P H m)) {f : FuncId} (h : (FK.enter f #[] fw0).allB isTrueF = true) (w : World) :
    Calls P f #[] w fun e w' => e = .returned (.bool true) ∧ RowKit.Below w.heap.size w w' := by
  have h1 : ((runH P H m).enter f #[] { (default : World) with heap := #[] }).all fun x => x.1 = .bool true :=
    hK.enter f #[] fw0 _ _ sim0 (T.all_of_allB (fun a ha w' _ => isTrueF_spec ha) h)
  refine (calls_of_runH hm hL (R.start P w { (default : World) with heap := #[] } rfl) (AR.empty _) h1).mono fun e w' he => ?_
  cases e with
  | returned v' =>
    obtain ⟨β2, v, σ', _, hR', hv, hq⟩ := he
    simp only at hq
    subst hq
    cases hv
    exact ⟨rfl, hR'.below⟩
  | panicked c => exact he.elim
  | outgrown => exact he.elim
end Go.Ideal
