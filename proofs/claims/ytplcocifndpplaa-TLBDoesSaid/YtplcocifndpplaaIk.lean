/-
  The operations side by side: iterators, copies, calls.
-/
import Derived.Test.YtplcocifndpplaaIj
namespace Go.Ideal
open Go
section
variable {P : Program} {B : Nat} {w0 : Base} {β : Beta}

theorem sim_newObj {o o' : Obj} (ho : ∀ β1 r, β.le β1 → OR β1 ⟨r, 0, 0, 0, 0⟩ o o') (hc : ∀ c e fz, o ≠ .cells c e fz) :
    Sim P B w0 β (newObj o) (newObj o') (fun β b b' => ∃ bi, β b = some bi ∧ b' = bi.r ∧ bi.d = 0) := by
  intro β1 σ w hle hR u σ' hu
  have hu' : Result.ok σ.heap.size (σ.alloc o) = .ok u σ' := hu
  simp only [Result.ok.injEq] at hu'
  obtain ⟨rfl, rfl⟩ := hu'
  have hlive : live o = true := by cases o <;> first | rfl | exact absurd rfl (hc _ _ _)
  have hl := Beta.le_put (bi := ⟨w.heap.size, 0, 0, 0, 0⟩) hR.fresh
  refine ⟨_, w.heap.size, w.alloc o', hl, rfl, hR.alloc (ho _ _ (hle.trans hl)) (fun c e fz h => absurd h (hc c e fz)) hlive, ⟨w.heap.size, 0, 0, 0, 0⟩, by unfold Beta.put; rw [if_pos rfl], rfl, rfl⟩

theorem sim_range {t : TypeId} {x x' : Value} (hx : VR β x x') : Sim P B w0 β (Instr.range t x) (Instr.range t x') VR := by
  unfold Instr.range
  have tail : ∀ {β1 : Beta} {o o' : Obj}, β.le β1 → (∀ β2 r, β1.le β2 → OR β2 ⟨r, 0, 0, 0, 0⟩ o o') → (∀ c e fz, o ≠ .cells c e fz) →
      Sim P B w0 β1 (do pure (Value.pointer (some ⟨← newObj o, 0, none⟩))) (do pure (Value.pointer (some ⟨← newObj o', 0, none⟩))) VR := by
    intro β1 o o' hle ho hc
    refine Sim.bind (sim_newObj ho hc) fun β2 b b' hle2 hb => Sim.pure fun β3 hle3 => ?_
    obtain ⟨bi, h1, rfl, h3⟩ := hb
    have := VR.ptr (o := 0) (hle3 _ _ h1)
    rwa [h3] at this
  refine Sim.under fun d hd => ?_
  cases d with
  | string =>
    cases hx with
    | string s => exact tail (.refl _) (fun β2 r _ => .stringIter s 0 rfl) (fun _ _ _ h => by cases h)
    | _ => exact Sim.stuck
  | map k e =>
    cases hx with
    | nilMap => exact tail (.refl _) (fun β2 r _ => .nilIter 0 #[] 0 rfl) (fun _ _ _ h => by cases h)
    | @map b bi hb =>
      dsimp only
      refine sim_getMap hb fun β1 es es' c hle he => ?_
      exact tail hle (fun β2 r hle2 => .mapIter (hle2 _ _ (hle _ _ hb)) c #[] c rfl) (fun _ _ _ h => by cases h)
    | _ => exact Sim.stuck
  | _ => cases hx <;> exact Sim.stuck

theorem find_born {β : Beta} (stamp : Nat) : ∀ {l m : List MapEntry}, ERL β l m →
    (l.find? (·.born == stamp) = none ∧ m.find? (·.born == stamp) = none) ∨ ∃ e e', l.find? (·.born == stamp) = some e ∧ m.find? (·.born == stamp) = some e' ∧ ER β e e'
  | [], [], _ => .inl ⟨rfl, rfl⟩
  | a :: l, b :: m, h => by
    simp only [List.find?_cons, ← h.1.born]
    cases hs : a.born == stamp with
    | true => exact .inr ⟨a, b, rfl, rfl, h.1⟩
    | false => exact find_born stamp h.2
  | [], _ :: _, h => h.elim
  | _ :: _, [], h => h.elim

theorem ER.tuple2 {x x' : MapEntry} (h : ER β x x') : VR β (.tuple #[x.key, x.val]) (.tuple #[x'.key, x'.val]) := by
  have hk : VR β x.key x'.key := by
    rw [← h.key.1]
    obtain ⟨a, b, e⟩ := keyFit_int h.key.2
    rw [e]; exact .int a b
  have := ((AR.empty β).push hk).push h.val
  exact .tuple this.1 this.2

theorem sim_entry {x x' : Value} (hx : VR β x x') : Sim P B w0 β (Instr.entry x) (Instr.entry x') VR := by
  unfold Instr.entry
  cases hx with
  | @ptr b o bi hb =>
    cases o with
    | succ o => exact Sim.stuck
    | zero =>
      intro β1 σ w hle hR u σ' hu
      have hd0 : bi.d = 0 := by
        have hbr := (hR.dom _ _ (hle _ _ hb))
        cases ho : σ.heap[b]? with
        | none => simp [getObj, Sem.run, ho, Result.andThen] at hu
        | some o =>
          cases o with
          | mapIter m s1 s2 s3 =>
            obtain ⟨o', _, hor⟩ := hR.obj _ _ _ ho (hle _ _ hb) rfl
            cases hor <;> assumption
          | _ => simp [getObj, Sem.run, ho, Result.andThen, Go.stuck] at hu
      have key : Sim P B w0 β1 (do
          let .mapIter (some m) _ seen stepped ← getObj b | Go.stuck "Entry: an iterator over a map that is not nil expected"
          let some stamp := seen.back? | Go.stuck "Entry: no step yet"
          let .map es clock ← getObj m | Go.stuck "Entry: map expected"
          if clock != stepped then Go.unsupported (.noEntry "instr/Entry: an insertion since the step")
          match es.find? (·.born == stamp) with
          | some e => pure (Value.tuple #[e.key, e.val])
          | none => Go.unsupported (.noEntry "instr/Entry.removed"))
        (do
          let .mapIter (some m) _ seen stepped ← getObj bi.r | Go.stuck "Entry: an iterator over a map that is not nil expected"
          let some stamp := seen.back? | Go.stuck "Entry: no step yet"
          let .map es clock ← getObj m | Go.stuck "Entry: map expected"
          if clock != stepped then Go.unsupported (.noEntry "instr/Entry: an insertion since the step")
          match es.find? (·.born == stamp) with
          | some e => pure (Value.tuple #[e.key, e.val])
          | none => Go.unsupported (.noEntry "instr/Entry.removed")) VR := by
        refine Sim.bind (sim_getObj (hle _ _ hb)) fun β2 o o' hle2 ho => ?_
        obtain ⟨ho, _⟩ := ho
        cases ho with
        | mapIter hm since seen stepped h0 =>
          dsimp only
          cases hsb : seen.back? with
          | none => exact Sim.stuck
          | some stamp =>
            refine sim_getMap hm fun β3 es es' c hle3 he => ?_
            split
            · exact Sim.never (never_left (never_halt _))
            · have hl := he.list
              rw [← Array.find?_toList, ← Array.find?_toList]
              rcases find_born _ hl with ⟨h1, h2⟩ | ⟨e, e', h1, h2, h3⟩
              · rw [h1]; exact Sim.unsupported
              · rw [h1, h2]
                exact Sim.pure fun β4 hle4 => (h3.mono hle4).tuple2
        | _ => exact Sim.stuck
      have := key β1 σ w (.refl _) hR u σ' hu
      have e0 : (0 + bi.d) = 0 := by omega
      rw [e0]
      exact this
  | nilPtr => exact Sim.stuck
  | _ => exact Sim.stuck

theorem sim_lenOf {x x' : Value} (hx : VR β x x') : Sim P B w0 β (Builtin.lenOf x) (Builtin.lenOf x') (fun _ a b => a = b) := by
  cases hx <;> first | exact Sim.stuck | exact Sim.pure fun _ _ => rfl

/-- A slice's first cells. -/
theorem sim_firstCells {size n : Nat} {x x' : Value} (hx : VR β x x') (hn : ∀ a l c, x = .slice a l c → n ≤ l) :
    Sim P B w0 β (Builtin.firstCells size n x) (Builtin.firstCells size n x') AR := by
  cases hx with
  | nilSlice => exact Sim.pure fun β1 _ => AR.empty β1
  | @slice b o len cap o' cap' bi hb hs =>
    have hl := hn _ _ _ rfl
    have zero : n = 0 → Sim P B w0 β (Builtin.firstCells size n (.slice (some ⟨b, o, none⟩) len cap)) (Builtin.firstCells size n (.slice (some ⟨bi.r, o', none⟩) len cap')) AR := by
      rintro rfl
      simp only [Builtin.firstCells, Nat.zero_mul, loadCells, loadCellsFrom]
      exact Sim.pure fun β1 _ => AR.empty β1
    rcases hs with ⟨h1, h2, h3, h4 | h4⟩ | ⟨h1, h2, ⟨h3, _⟩ | ⟨h3, _⟩⟩ | ⟨_, h3, _⟩
    · subst h4; exact sim_loadCells ⟨b, o, bi, hb, rfl, rfl⟩ _
    · exact zero (by omega)
    · subst h3; exact sim_loadCells ⟨b, o, bi, hb, rfl, rfl⟩ _
    · exact zero (by omega)
    · subst h3; exact sim_loadCells ⟨b, o, bi, hb, rfl, rfl⟩ _
  | string s =>
    refine Sim.pure fun β1 _ => ⟨rfl, fun i v v' e e' => ?_⟩
    rw [e] at e'
    simp only [Option.some.injEq] at e'
    subst e'
    simp only [Array.getElem?_map, Option.map_eq_some_iff] at e
    obtain ⟨b, _, rfl⟩ := e
    exact .int _ _
  | _ => exact Sim.stuck


theorem sim_unary {op : UnOp} {x x' : Value} (hx : VR β x x') (hf : unFit x = true) : Sim P B w0 β (Op.unary op x) (Op.unary op x') VR := by
  cases hx with
  | int k n => cases op <;> first | exact Sim.stuck | exact Sim.pure fun _ _ => VR.int _ _
  | bool b => cases op <;> first | exact Sim.stuck | exact Sim.pure fun _ _ => VR.bool _
  | _ => simp [unFit] at hf

theorem sim_convert {s d : TypeId} {k : IntKind} {n : Int} (hd : isInt P d = true) : Sim P B w0 β (convert s d (.int k n)) (convert s d (.int k n)) VR := by
  obtain ⟨kk, hk⟩ := isInt_spec hd
  unfold convert
  refine Sim.under fun ds hds => Sim.under fun dd hdd => ?_
  rw [hk] at hdd
  simp only [Option.some.injEq] at hdd
  subst hdd
  cases ds <;> exact Sim.pure fun _ _ => VR.int _ _

theorem sim_fold {f : Value → Value → Sem Value} (hf : ∀ k a j b, ∃ c, f (.int k a) (.int j b) = Pure.pure (.int k c)) : ∀ (l m : List Value) (x x' : Value), LR β l m → VR β x x' → keyFit x = true → (∀ y ∈ l, keyFit y = true) →
    Sim P B w0 β (l.foldlM f x) (m.foldlM f x') VR := by
  intro l
  induction l with
  | nil =>
    intro m x x' hl hx hk _
    cases m with
    | nil => exact Sim.pure fun β1 hle => hx.mono hle
    | cons b m => exact hl.elim
  | cons a l ih =>
    intro m x x' hl hx hk hall
    cases m with
    | nil => exact hl.elim
    | cons b m =>
      obtain ⟨k, n, rfl⟩ := keyFit_int hk
      obtain ⟨j, i, rfl⟩ := keyFit_int (hall a (by simp))
      cases hx
      have hb := hl.1
      cases hb
      obtain ⟨c, hc⟩ := hf k n j i
      rw [List.foldlM_cons, List.foldlM_cons, hc]
      simp only [pure_bind]
      exact ih m _ _ hl.2 (.int k c) rfl (fun y hy => hall y (by simp [hy]))

theorem sim_max {at_ : Array TypeId} {ty : TypeId} {args args' : Array Value} (ha : AR β args args') (hk : ∀ y ∈ args.toList, keyFit y = true) : Sim P B w0 β (Builtin.max_ at_ ty args) (Builtin.max_ at_ ty args') VR := by
  unfold Builtin.max_
  have hl := ha.lr
  revert hl hk
  cases args.toList with
  | nil => intro hk hl; exact Sim.stuck
  | cons a l =>
    cases args'.toList with
    | nil => intro hk hl; exact hl.elim
    | cons b m => intro hk hl; exact sim_fold (fun k a j b => ⟨_, rfl⟩) l m a b hl.2 hl.1 (hk a (by simp)) (fun y hy => hk y (by simp [hy]))

theorem sim_min {at_ : Array TypeId} {ty : TypeId} {args args' : Array Value} (ha : AR β args args') (hk : ∀ y ∈ args.toList, keyFit y = true) : Sim P B w0 β (Builtin.min_ at_ ty args) (Builtin.min_ at_ ty args') VR := by
  unfold Builtin.min_
  have hl := ha.lr
  revert hl hk
  cases args.toList with
  | nil => intro hk hl; exact Sim.stuck
  | cons a l =>
    cases args'.toList with
    | nil => intro hk hl; exact hl.elim
    | cons b m => intro hk hl; exact sim_fold (fun k a j b => ⟨_, rfl⟩) l m a b hl.2 hl.1 (hk a (by simp)) (fun y hy => hk y (by simp [hy]))

/-! ### Slices -/
theorem still_bound (x : Value) (y : Nat) (c : BoundsCode) (hx : ∀ a, x ≠ .pointer (some a)) : Still (Instr.sliceBound x y c) P := by
  unfold Instr.sliceBound asIntOf
  cases x <;> first
    | exact (stillP_never (never_left (never_halt _)) (Q := fun _ => True)).still
    | (refine still_bind (still_pure _) fun p => ?_
       dsimp only
       split
       · exact still_pure _
       · exact (stillP_never (never_boundsPanic _ _ _ _) (Q := fun _ => True)).still)
    | (rename_i a; cases a
       · exact (stillP_never (never_left (never_halt _)) (Q := fun _ => True)).still
       · exact absurd rfl (hx _))
end
end Go.Ideal
